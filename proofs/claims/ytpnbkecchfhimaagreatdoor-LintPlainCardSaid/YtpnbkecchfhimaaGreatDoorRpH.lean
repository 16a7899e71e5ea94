/- escape.Escape: the walk. -/
import Derived.Test.YtpnbkecchfhimaaGreatDoorRpG
namespace Go.Proofs.YtpnbkecchfhimaaGreatDoor
open Go.RowKit
open Go.Lib (hid)
set_option linter.unusedVariables false
set_option linter.unusedSimpArgs false
set_option maxRecDepth 100000

set_option maxHeartbeats 4000000 in
theorem rpDo_any (q r c : Nat) (w : World) (hq : Blk w q 147 #[.int .u32 0, .int .i32 0, .int .u32 0, .nilIface, .slice (some ⟨r, 0, none⟩) 6 c]) (h6 : Six w r) (hne : r ≠ q) :
    Calls Tryz.prog 82 #[.pointer (some ⟨q, 0, none⟩), .func (.func 83) #[.pointer (some ⟨q, 0, none⟩)] #[]] w fun e w' => SlowB q w e w' := by
  have HSL := hid (rpSlow_any q r c w hq h6 hne)
  have z0 := hq.cell 0
  simp only [List.getElem?_toArray, List.getElem?_cons_zero, List.getElem?_cons_succ] at z0
  have HLD := hid (syLoad ⟨q, 0, none⟩ 0 _ z0)
  have hnot : ∀ (x : Bool) (w : World), (Op.unary .not (.bool x)).run Tryz.prog w = .ok (.bool (!x)) w := fun _ _ => rfl
  clear hq h6 z0
  go_enter Tryz.func82, Tryz.ntmps82
  go_wp2_with fail
  refine HLD.out.mono ?_
  rintro e wM ⟨rfl, hwM⟩
  obtain rfl : w = wM := hwM.symm
  clear hwM
  go_wp2_with fail
  refine HSL.out.mono ?_
  rintro e w1 h1
  obtain ⟨rfl, h2⟩ := h1
  have H2 := hid h2
  clear h2
  go_wp2_with fail
  go_end0
  exact ⟨rfl, H2.out⟩
set_option maxHeartbeats 4000000 in
theorem rpRep_any (q r c : Nat) (s : ByteArray) (w : World) (hq : Blk w q 147 #[.int .u32 0, .int .i32 0, .int .u32 0, .nilIface, .slice (some ⟨r, 0, none⟩) 6 c]) (h6 : Six w r) (hne : r ≠ q) (hs : s.size ≤ 100000) :
    Calls Tryz.prog 54 #[.pointer (some ⟨q, 0, none⟩), .string s] w fun e w' => e = .returned (.string (escB s)) ∧ Below q w w' := by
  have HDO := hid (rpDo_any q r c w hq h6 hne)
  have HDN := hid (fun e w' (h : SlowB q w e w') => slow_done (B := w.heap.size) h hq.lt (Nat.le_refl _) ⟨_, hq, rfl⟩)
  have hql := hq.lt
  clear hq h6
  go_enter Tryz.func54, Tryz.ntmps54
  go_wp2_with fail
  refine HDO.out.mono ?_
  rintro e w1 h1
  have HD1 := hid (HDN.out e w1 h1)
  obtain ⟨rfl, _⟩ := h1
  obtain ⟨g, hg, hr, y3, hb, hq1⟩ := HD1.out
  have HRP := hid (rpReplace_any g s w1 hr hs)
  have HBB := hid hb
  have hm : ∀ w : World, (method 495 250 (.pointer (some ⟨g, 0, none⟩)) "Replace").run Tryz.prog w = .ok (281, .pointer (some ⟨g, 0, none⟩)) w := fun _ => by kernel_rfl
  clear HD1 hr hb
  go_wp2_with fail
  refine HRP.out.mono ?_
  rintro e w2 ⟨rfl, hb2⟩
  have HB2 := hid (HBB.out.trans (hb2.mono (Nat.le_of_lt hq1)))
  clear hb2
  go_wp2_with fail
  go_ret
  exact ⟨rfl, HB2.out⟩
set_option maxHeartbeats 4000000 in
/-- escape.Escape. -/
theorem escape_any (s : ByteArray) (w : World) (hs : s.size ≤ 100000) :
    Calls Tryz.prog 31 #[.string s] w fun e w' => e = .returned (.string (escB s)) ∧ Below w.heap.size w w' := by
  have hbk := Blk.new w 9 rpL.toArray
  have HB1 := hid ((Below.refl w.heap.size w).alloc (Nat.le_refl _) (.cells rpL.toArray 9))
  have HNW := hid (newRp_any w.heap.size _ hbk)
  have HRE := hid (fun (W : World) (q r c : Nat) (h1 : Blk W q 147 #[.int .u32 0, .int .i32 0, .int .u32 0, .nilIface, .slice (some ⟨r, 0, none⟩) 6 c]) (h2 : Six W r) (h3 : r ≠ q) => rpRep_any q r c s W h1 h2 h3 hs)
  have hsz : (w.alloc (.cells rpL.toArray 9)).heap.size = w.heap.size + 1 := by simp
  have HSZ := hid hsz
  clear hbk hsz
  unfold rpL at HB1 HNW HSZ
  go_enter Tryz.func31, Tryz.ntmps31
  go_wp2_with fail
  refine HNW.out.mono ?_
  rintro e w2 ⟨q, v, rfl, hq, hqb, hrow, hb2⟩
  obtain ⟨r, c, rfl⟩ := ownsRow_succ (k := 5) hrow
  have h6 : Six w2 r := ⟨(hrow.lt r rfl).2, fun j hj => hrow.cellAt j (by simpa [rpL] using hj)⟩
  have hne : r ≠ q := fun e => by
    subst e
    rcases hrow.2 with ⟨e0, _⟩ | ⟨gq, cap, cur, e0, hb, hh, _⟩
    · cases e0
    · injection e0 with e1 _ _
      injection e1 with e1
      injection e1 with e1 _
      subst e1
      unfold Blk at hqb
      rw [hqb] at hh
      injection hh with hh
      injection hh with _ ht _
      exact absurd ht (by decide)
  have HRR := hid (HRE.out w2 q r c hqb h6 hne)
  have HB2 := hid (HB1.out.trans (hb2.mono HB1.out.size))
  have hwq : w.heap.size ≤ q := by have := HSZ.out; omega
  have hql := hqb.lt
  clear hq hqb hrow hb2 h6
  go_wp2_with fail
  refine HRR.out.mono ?_
  rintro e w3 ⟨rfl, hb3⟩
  have HB3 := hid (HB2.out.trans (hb3.mono hwq))
  clear hb3
  go_wp2_with fail
  go_ret
  exact ⟨rfl, HB3.out⟩
end Go.Proofs.YtpnbkecchfhimaaGreatDoor
