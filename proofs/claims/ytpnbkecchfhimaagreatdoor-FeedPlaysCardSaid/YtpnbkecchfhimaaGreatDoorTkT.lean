/- Chapter 19: the document's begins: the walk. -/
import Derived.Test.YtpnbkecchfhimaaGreatDoorTkS
namespace Go.Proofs.YtpnbkecchfhimaaGreatDoor
open Go.RowKit Go.Shelf
open Go.Lib (hid)
set_option linter.unusedVariables false
set_option maxRecDepth 100000

def tC (k f t : Int) (nm : ByteArray) (r : Int) (sg cl : Bool) : Array Value := #[.int .i64 k, .int .i64 f, .int .i64 t, .string nm, .int .i32 r, .bool sg, .bool cl]
def t0C : Array Value := #[.int .i64 0, .int .i64 0, .int .i64 0, .string ⟨#[]⟩, .int .i32 0, .bool false, .bool false]
def RetBg (w : World) (e : Ending) (w' : World) (s : ByteArray) (i : Nat) : Prop :=
  ∃ (t : Tk) (cl : Bool), e = .returned (.agg (tC t.kind t.fr t.til t.name t.r t.single cl)) ∧ (specA s i = none → t.kind = 0) ∧
    (∀ sp, specA s i = some sp → t = spTk i sp ∧ (decide (sp.kind = 2) && cl && !sp.single && rawsB sp.name) = sp.raw) ∧ Below w.heap.size w w'
def sSet7 (w : World) (r : Nat) (k f t : Int) (nm : ByteArray) (z : Int) (sg cl : Bool) : World :=
  ((((((w.setCell ⟨r, 0, none⟩ (.int .i64 k)).setCell ⟨r, 1, none⟩ (.int .i64 f)).setCell ⟨r, 2, none⟩ (.int .i64 t)).setCell ⟨r, 3, none⟩ (.string nm)).setCell ⟨r, 4, none⟩ (.int .i32 z)).setCell ⟨r, 5, none⟩ (.bool sg)).setCell ⟨r, 6, none⟩ (.bool cl)
theorem sSet7_blk {w : World} {r : Nat} {k f t : Int} {nm : ByteArray} {z : Int} {sg cl : Bool} (h : Blk w r 42 t0C) : Blk (sSet7 w r k f t nm z sg cl) r 42 (tC k f t nm z sg cl) := by
  have := ((((((h.set_ 0 (.int .i64 k)).set_ 1 (.int .i64 f)).set_ 2 (.int .i64 t)).set_ 3 (.string nm)).set_ 4 (.int .i32 z)).set_ 5 (.bool sg)).set_ 6 (.bool cl)
  unfold sSet7
  simpa [t0C, tC] using this
theorem sSet7_below {w w0 : World} {B r : Nat} {k f t : Int} {nm : ByteArray} {z : Int} {sg cl : Bool} (hB : B ≤ r) (h : Below B w0 w) : Below B w0 (sSet7 w r k f t nm z sg cl) :=
  (((((((h.setCell (p := ⟨r, 0, none⟩) hB _).setCell (p := ⟨r, 1, none⟩) hB _).setCell (p := ⟨r, 2, none⟩) hB _).setCell (p := ⟨r, 3, none⟩) hB _).setCell (p := ⟨r, 4, none⟩) hB _).setCell (p := ⟨r, 5, none⟩) hB _).setCell (p := ⟨r, 6, none⟩) hB _)
theorem headV_none (t : ByteArray) : True := trivial
theorem readV_lt {s : ByteArray} {i : Nat} (h : (readV s i).2 = true) : byt s i = 60 := by
  unfold readV at h
  split at h
  · cases h
  · rename_i hc
    rw [Int.toNat_natCast] at hc
    by_cases h60 : byt s i = 60
    · exact h60
    · exact absurd (.inr (.inr h60)) hc
theorem entR_amp {s : ByteArray} {i : Nat} {p : Int × Nat} (h : entR s i = some p) : byt s i = 38 := by
  unfold entR at h
  split at h
  · rename_i hc
    rw [Int.toNat_natCast] at hc
    exact hc.2.2
  · cases h
theorem readE_esc {s : ByteArray} {i : Nat} (h : 0 < (readE s i).size) : byt s i = 27 := by
  unfold readE at h
  split at h
  · rename_i hc
    rw [Int.toNat_natCast] at hc
    exact hc.2.2
  · exact absurd h (by decide)
theorem specA_tag {s : ByteArray} {i : Nat} (h : (readV s i).2 = true) : specA s i = some (tagSp (readV s i).1) := by
  unfold specA
  rw [if_pos (readV_lt h), if_pos h]
theorem specA_ent {s : ByteArray} {i : Nat} {p : Int × Nat} (h : entR s i = some p) : specA s i = some ⟨1, p.2, noB, p.1, false, false⟩ := by
  have := entR_amp h
  unfold specA
  rw [if_neg (by rw [this]; decide), if_pos this, h]
  rfl
theorem specA_esc {s : ByteArray} {i : Nat} (h : 0 < (readE s i).size) : specA s i = some ⟨6, (readE s i).size, noB, 0, false, false⟩ := by
  have := readE_esc h
  unfold specA
  rw [if_neg (by rw [this]; decide), if_neg (by rw [this]; decide), if_pos h]
theorem specA_not {s : ByteArray} {i : Nat} (h1 : (readV s i).2 = false) (h2 : entR s i = none) (h3 : ¬ 0 < (readE s i).size) : specA s i = none := by
  unfold specA
  rw [h1, h2, if_neg h3]
  split
  · rfl
  · split <;> rfl
theorem retBg_some {w : World} {s : ByteArray} {i : Nat} {sp : Sp} {cl : Bool} (hsp : specA s i = some sp) (hraw : (decide (sp.kind = 2) && cl && !sp.single && rawsB sp.name) = sp.raw)
    {e : Ending} {W : World} (he : e = .returned (.agg (tC sp.kind i ((i : Int) + (sp.size : Int)) sp.name sp.r sp.single cl))) (hW : Below w.heap.size w W) : RetBg w e W s i := by
  refine ⟨spTk i sp, cl, ?_, fun h => ?_, fun sp' h => ?_, hW⟩
  · rw [he]
    rfl
  · rw [hsp] at h
    cases h
  · rw [hsp] at h
    injection h with h
    subst h
    exact ⟨rfl, hraw⟩
theorem retBg_none {w : World} {s : ByteArray} {i : Nat} (hsp : specA s i = none) {e : Ending} {W : World} (he : e = .returned (.agg t0C)) (hW : Below w.heap.size w W) : RetBg w e W s i := by
  refine ⟨⟨0, 0, 0, noB, 0, false⟩, false, ?_, fun _ => rfl, fun sp h => ?_, hW⟩
  · rw [he]
    rfl
  · rw [hsp] at h
    cases h
set_option maxHeartbeats 2000000 in
theorem refbegins_any (a : Option Addr) (n cap i : Nat) (s : ByteArray) (w : World) (hb : BA w a n cap s) (hm : n ≤ 1000000) (hi : i < n) :
    Calls Tryz.prog 40 #[.slice a n cap, .int .i64 i] w fun e w' => RetBg w e w' s i := by
  have hns := hb.1
  have hcap := hb.2.1
  have hc63 := hb.2.2.1
  have hw1 : Below w.heap.size w (w.alloc (.cells t0C 42)) := (Below.refl _ _).alloc (Nat.le_refl _) _
  have hk1 := Blk.new w 42 t0C
  have HRD := hid (fun W (hW : Below w.heap.size w W) => refread_any W a n cap i s hns (hb.below hW (Nat.le_refl _)).2.2.2 hcap hc63 (by omega) (by omega))
  have HRE := hid (fun W (hW : Below w.heap.size w W) => refread_any_e a n cap i s W (hb.below hW (Nat.le_refl _)) hm hi)
  have HRA := hid (fun W (hW : Below w.heap.size w W) => refread_any_a a n cap i s W (hb.below hW (Nat.le_refl _)) (by omega) (by omega))
  have HRF := hid (ref_ent s i (by omega))
  have HBA := hid hb
  have HNS := hid hns
  have hi' : (i : Int) < (n : Int) := by omega
  have hsn : s.size ≤ 1000000 := by omega
  clear hb hcap hc63 hns
  simp only [t0C] at hw1 hk1
  cases hok : (readV s i).2
  · have HOK := hid hok
    obtain ⟨M, hM⟩ : ∃ M, M = (readV s i).1 := ⟨_, rfl⟩
    rw [hok, ← hM] at HRD
    obtain ⟨kd, sz, nm, ats, sg, cl⟩ := M
    clear hok hM
    rw [HRF.out] at HRE
    cases he : entR s i with
    | some p =>
      obtain ⟨r, q⟩ := p
      have hbd := entR_bd he
      simp only at hbd
      have HSP := hid (specA_ent he)
      rw [he] at HRE
      simp only [pairV, Option.getD_some] at HRE
      have e2 : IntKind.i64.wrap ((i : Int) + (q : Int)) = (i : Int) + (q : Int) := IntWalk.i64_in _ (by omega)
      have hq0 : (0 : Int) < (q : Int) := by omega
      have hq0n : 0 < q := by omega
      clear he hbd
      go_enter Tryz.func40, Tryz.ntmps40
      go_upto_region 1 with fail
      generalize w.alloc (.cells #[.int .i64 0, .int .i64 0, .int .i64 0, .string ⟨#[]⟩, .int .i32 0, .bool false, .bool false] 42) = w1 at *
      have HW1 := hid hw1
      have HK1 := hid hk1
      clear hw1 hk1
      go_wp2_with fail
      refine (HRD.out _ HW1.out).mono ?_
      rintro e w2 ⟨v, rfl, hb2, ho2⟩
      obtain ⟨VA, VC, rfl⟩ := owns_slice ho2
      simp only [Mk.val]
      have HW2 := hid (HW1.out.trans (hb2.mono HW1.out.size))
      have HK2 := hid (HK1.out.below hb2 HK1.out.lt)
      have HW3 := hid (HW2.out.alloc HW2.out.size (.cells #[.int .i64 kd, .int .i64 sz, .string nm, .slice VA ats.length VC, .bool sg, .bool cl] 80))
      have HK3 := hid (HK2.out.alloc (.cells #[.int .i64 kd, .int .i64 sz, .string nm, .slice VA ats.length VC, .bool sg, .bool cl] 80))
      clear hb2 ho2
      go_upto_region 4 with fail
      generalize w2.alloc (.cells #[.int .i64 kd, .int .i64 sz, .string nm, .slice VA ats.length VC, .bool sg, .bool cl] 80) = w3 at *
      go_wp2_with fail
      refine (HRE.out _ HW3.out).mono ?_
      rintro e w4 ⟨rfl, hb4⟩
      have hk4 := HK3.out.below hb4 HK3.out.lt
      have yf := hk4.frozen
      have y0 := hk4.cell 0
      have y1 := hk4.cell 1
      have y2 := hk4.cell 2
      have y3 := hk4.cell 3
      have y4 := hk4.cell 4
      have y5 := hk4.cell 5
      have y6 := hk4.cell 6
      simp only [List.getElem?_toArray, List.getElem?_cons_zero, List.getElem?_cons_succ] at y0 y1 y2 y3 y4 y5 y6
      have HBK := hid (sSet7_blk (k := 1) (f := i) (t := (i : Int) + (q : Int)) (nm := ⟨#[]⟩) (z := r) (sg := false) (cl := false) hk4)
      have HBL := hid (sSet7_below (k := 1) (f := i) (t := (i : Int) + (q : Int)) (nm := ⟨#[]⟩) (z := r) (sg := false) (cl := false) (Nat.le_refl _) (HW3.out.trans (hb4.mono HW3.out.size)))
      clear hb4 hk4
      go_wp2_with fail
      change bodyPost _ _ _ _ _ (sSet7 w4 w.heap.size 1 i ((i : Int) + (q : Int)) ⟨#[]⟩ r false false)
      generalize sSet7 w4 w.heap.size 1 i ((i : Int) + (q : Int)) ⟨#[]⟩ r false false = W at *
      exact bodyPost_ret (results_cell_row rfl _ _ w.heap.size _ _ _ _ rfl HBK.out Tryz.underlying42 rfl (by kernel_rfl)) rfl (retBg_some HSP.out rfl rfl HBL.out)
    | none =>
      have HEN := hid he
      rw [he] at HRE
      simp only [pairV, Option.getD_none] at HRE
      have hk : i + (readE s i).size ≤ 2000000 := by
        by_cases h : 0 < (readE s i).size
        · have := readE_bd s i h; omega
        · omega
      have HNOT := hid (fun h3 => specA_not HOK.out HEN.out h3)
      have HESC := hid (fun h => specA_esc (s := s) (i := i) h)
      obtain ⟨E, hE⟩ : ∃ E, E = readE s i := ⟨_, rfl⟩
      rw [← hE] at HRA hk HNOT HESC
      obtain ⟨q, wh, op, la⟩ := E
      simp only [Es.val] at HRA hk HNOT HESC
      have e2 : IntKind.i64.wrap ((i : Int) + (q : Int)) = (i : Int) + (q : Int) := IntWalk.i64_in _ (by omega)
      clear he hE hk
      go_enter Tryz.func40, Tryz.ntmps40
      go_upto_region 1 with fail
      generalize w.alloc (.cells #[.int .i64 0, .int .i64 0, .int .i64 0, .string ⟨#[]⟩, .int .i32 0, .bool false, .bool false] 42) = w1 at *
      have HW1 := hid hw1
      have HK1 := hid hk1
      clear hw1 hk1
      go_wp2_with fail
      refine (HRD.out _ HW1.out).mono ?_
      rintro e w2 ⟨v, rfl, hb2, ho2⟩
      obtain ⟨VA, VC, rfl⟩ := owns_slice ho2
      simp only [Mk.val]
      have HW2 := hid (HW1.out.trans (hb2.mono HW1.out.size))
      have HK2 := hid (HK1.out.below hb2 HK1.out.lt)
      have HW3 := hid (HW2.out.alloc HW2.out.size (.cells #[.int .i64 kd, .int .i64 sz, .string nm, .slice VA ats.length VC, .bool sg, .bool cl] 80))
      have HK3 := hid (HK2.out.alloc (.cells #[.int .i64 kd, .int .i64 sz, .string nm, .slice VA ats.length VC, .bool sg, .bool cl] 80))
      clear hb2 ho2
      go_upto_region 4 with fail
      generalize w2.alloc (.cells #[.int .i64 kd, .int .i64 sz, .string nm, .slice VA ats.length VC, .bool sg, .bool cl] 80) = w3 at *
      go_wp2_with fail
      refine (HRE.out _ HW3.out).mono ?_
      rintro e w4 ⟨rfl, hb4⟩
      have hk4 := HK3.out.below hb4 HK3.out.lt
      have hw4 := HW3.out.trans (hb4.mono HW3.out.size)
      have HK4 := hid hk4
      have HW4 := hid hw4
      clear hb4 hk4 hw4
      go_wp2_with fail
      refine (HRA.out _ HW4.out).mono ?_
      rintro e w5 ⟨rfl, hb5⟩
      have hw5 := HW4.out.trans (hb5.mono HW4.out.size)
      have hk5 := (HK4.out.below hb5 HK4.out.lt).alloc (.cells #[.int .i64 q, .bool wh, .bool op, .int .u8 la] 76)
      have hw6 := hw5.alloc hw5.size (.cells #[.int .i64 q, .bool wh, .bool op, .int .u8 la] 76)
      have hx := Blk.new w5 76 #[.int .i64 q, .bool wh, .bool op, .int .u8 la]
      have x0 := hx.cell 0
      simp only [List.getElem?_toArray, List.getElem?_cons_zero] at x0
      have HK6 := hid hk5
      have HW6 := hid hw6
      clear hb5 hw5 hk5 hw6 hx
      by_cases hq : 0 < q
      · have hq' : (0 : Int) < (q : Int) := by omega
        have HSP := hid (HESC.out hq)
        go_upto_region 8 with fail
        generalize w5.alloc (.cells #[.int .i64 q, .bool wh, .bool op, .int .u8 la] 76) = w6 at *
        have yf := HK6.out.frozen
        have y0 := HK6.out.cell 0
        have y1 := HK6.out.cell 1
        have y2 := HK6.out.cell 2
        have y3 := HK6.out.cell 3
        have y4 := HK6.out.cell 4
        have y5 := HK6.out.cell 5
        have y6 := HK6.out.cell 6
        simp only [List.getElem?_toArray, List.getElem?_cons_zero, List.getElem?_cons_succ] at y0 y1 y2 y3 y4 y5 y6
        have HBK := hid (sSet7_blk (k := 6) (f := i) (t := (i : Int) + (q : Int)) (nm := ⟨#[]⟩) (z := 0) (sg := false) (cl := false) HK6.out)
        have HBL := hid (sSet7_below (k := 6) (f := i) (t := (i : Int) + (q : Int)) (nm := ⟨#[]⟩) (z := 0) (sg := false) (cl := false) (Nat.le_refl _) HW6.out)
        go_wp2_with fail
        change bodyPost _ _ _ _ _ (sSet7 w6 w.heap.size 6 i ((i : Int) + (q : Int)) ⟨#[]⟩ 0 false false)
        generalize sSet7 w6 w.heap.size 6 i ((i : Int) + (q : Int)) ⟨#[]⟩ 0 false false = W at *
        exact bodyPost_ret (results_cell_row rfl _ _ w.heap.size _ _ _ _ rfl HBK.out Tryz.underlying42 rfl (by kernel_rfl)) rfl (retBg_some HSP.out rfl rfl HBL.out)
      · have hq' : ¬ (0 : Int) < (q : Int) := by omega
        have HSP := hid (HNOT.out hq)
        go_upto_region 8 with fail
        generalize w5.alloc (.cells #[.int .i64 q, .bool wh, .bool op, .int .u8 la] 76) = w6 at *
        have yf := HK6.out.frozen
        have y0 := HK6.out.cell 0
        have y1 := HK6.out.cell 1
        have y2 := HK6.out.cell 2
        have y3 := HK6.out.cell 3
        have y4 := HK6.out.cell 4
        have y5 := HK6.out.cell 5
        have y6 := HK6.out.cell 6
        simp only [List.getElem?_toArray, List.getElem?_cons_zero, List.getElem?_cons_succ] at y0 y1 y2 y3 y4 y5 y6
        have HBK := hid (sSet7_blk (k := 0) (f := 0) (t := 0) (nm := ⟨#[]⟩) (z := 0) (sg := false) (cl := false) HK6.out)
        have HBL := hid (sSet7_below (k := 0) (f := 0) (t := 0) (nm := ⟨#[]⟩) (z := 0) (sg := false) (cl := false) (Nat.le_refl _) HW6.out)
        go_wp2_with fail
        change bodyPost _ _ _ _ _ (sSet7 w6 w.heap.size 0 0 0 ⟨#[]⟩ 0 false false)
        generalize sSet7 w6 w.heap.size 0 0 0 ⟨#[]⟩ 0 false false = W at *
        exact bodyPost_ret (results_cell_row rfl _ _ w.heap.size _ _ _ _ rfl HBK.out Tryz.underlying42 rfl (by kernel_rfl)) rfl (retBg_none HSP.out rfl HBL.out)
  · have HSP := hid (specA_tag hok)
    have hbd := readV_bd s i hok
    obtain ⟨M, hM⟩ : ∃ M, M = (readV s i).1 := ⟨_, rfl⟩
    rw [hok, ← hM] at HRD
    rw [← hM] at HSP hbd
    obtain ⟨kd, sz, nm, ats, sg, cl⟩ := M
    simp only at hbd
    have e1 : IntKind.i64.wrap (kd + 2) = 2 + kd := (IntWalk.i64_in _ (by omega)).trans (Int.add_comm _ _)
    have e2 : IntKind.i64.wrap ((i : Int) + (sz : Int)) = (i : Int) + (sz : Int) := IntWalk.i64_in _ (by omega)
    have HRAW := hid (show (decide ((tagSp ⟨kd, sz, nm, ats, sg, cl⟩).kind = 2) && cl && !(tagSp ⟨kd, sz, nm, ats, sg, cl⟩).single && rawsB (tagSp ⟨kd, sz, nm, ats, sg, cl⟩).name) = (tagSp ⟨kd, sz, nm, ats, sg, cl⟩).raw by
      show (decide (2 + kd = 2) && cl && !sg && rawsB nm) = (decide (kd = 0) && cl && !sg && rawsB nm)
      by_cases h : kd = 0
      · rw [decide_eq_true h, decide_eq_true (by omega)]
      · rw [decide_eq_false h, decide_eq_false (by omega)])
    clear hok hM hbd
    go_enter Tryz.func40, Tryz.ntmps40
    go_upto_region 1 with fail
    generalize w.alloc (.cells #[.int .i64 0, .int .i64 0, .int .i64 0, .string ⟨#[]⟩, .int .i32 0, .bool false, .bool false] 42) = w1 at *
    have HW1 := hid hw1
    have HK1 := hid hk1
    clear hw1 hk1
    go_wp2_with fail
    refine (HRD.out _ HW1.out).mono ?_
    rintro e w2 ⟨v, rfl, hb2, ho2⟩
    obtain ⟨VA, VC, rfl⟩ := owns_slice ho2
    simp only [Mk.val]
    have HW2 := hid (HW1.out.trans (hb2.mono HW1.out.size))
    have HK2 := hid (HK1.out.below hb2 HK1.out.lt)
    have HW3 := hid (HW2.out.alloc HW2.out.size (.cells #[.int .i64 kd, .int .i64 sz, .string nm, .slice VA ats.length VC, .bool sg, .bool cl] 80))
    have HK3 := hid (HK2.out.alloc (.cells #[.int .i64 kd, .int .i64 sz, .string nm, .slice VA ats.length VC, .bool sg, .bool cl] 80))
    clear hb2 ho2
    have hx := Blk.new w2 80 #[.int .i64 kd, .int .i64 sz, .string nm, .slice VA ats.length VC, .bool sg, .bool cl]
    have x0 := hx.cell 0
    have x1 := hx.cell 1
    have x2 := hx.cell 2
    have x4 := hx.cell 4
    have x5 := hx.cell 5
    simp only [List.getElem?_toArray, List.getElem?_cons_zero, List.getElem?_cons_succ] at x0 x1 x2 x4 x5
    clear hx
    go_upto_region 2 with fail
    generalize w2.alloc (.cells #[.int .i64 kd, .int .i64 sz, .string nm, .slice VA ats.length VC, .bool sg, .bool cl] 80) = w3 at *
    have yf := HK3.out.frozen
    have y0 := HK3.out.cell 0
    have y1 := HK3.out.cell 1
    have y2 := HK3.out.cell 2
    have y3 := HK3.out.cell 3
    have y4 := HK3.out.cell 4
    have y5 := HK3.out.cell 5
    have y6 := HK3.out.cell 6
    simp only [List.getElem?_toArray, List.getElem?_cons_zero, List.getElem?_cons_succ] at y0 y1 y2 y3 y4 y5 y6
    have HBK := hid (sSet7_blk (k := 2 + kd) (f := i) (t := (i : Int) + (sz : Int)) (nm := nm) (z := 0) (sg := sg) (cl := cl) HK3.out)
    have HBL := hid (sSet7_below (k := 2 + kd) (f := i) (t := (i : Int) + (sz : Int)) (nm := nm) (z := 0) (sg := sg) (cl := cl) (Nat.le_refl _) HW3.out)
    go_wp2_with fail
    change bodyPost _ _ _ _ _ (sSet7 w3 w.heap.size (2 + kd) i ((i : Int) + (sz : Int)) nm 0 sg cl)
    generalize sSet7 w3 w.heap.size (2 + kd) i ((i : Int) + (sz : Int)) nm 0 sg cl = W at *
    exact bodyPost_ret (results_cell_row rfl _ _ w.heap.size _ _ _ _ rfl HBK.out Tryz.underlying42 rfl (by kernel_rfl)) rfl (retBg_some HSP.out HRAW.out rfl HBL.out)
end Go.Proofs.YtpnbkecchfhimaaGreatDoor
