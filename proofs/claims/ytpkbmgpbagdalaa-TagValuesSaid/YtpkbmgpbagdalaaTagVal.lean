/- Chapter 18: the value of an attribute: the walk. -/
import Derived.Test.YtpkbmgpbagdalaaTagAlike
import Derived.Deep.LoopGhost
namespace Go.Proofs.Ytpkbmgpbagdalaa
open Go.RowKit
open Go.Lib (hid)
set_option linter.unusedVariables false

/-- The first attribute of that name. -/
def look (nm : ByteArray) : List (ByteArray × ByteArray) → ByteArray × Bool
  | [] => (⟨#[]⟩, false)
  | a :: l => if (a.1.toList == nm.toList) = true then (a.2, true) else look nm l
theorem look_hit (nm : ByteArray) (l : List (ByteArray × ByteArray)) (i : Nat) (h : i < l.length) (he : (l[i].1.toList == nm.toList) = true) : look nm (l.drop i) = (l[i].2, true) := by
  rw [List.drop_eq_getElem_cons h, look, if_pos he]
theorem look_next (nm : ByteArray) (l : List (ByteArray × ByteArray)) (i : Nat) (h : i < l.length) (he : (l[i].1.toList == nm.toList) = false) : look nm (l.drop i) = look nm (l.drop (i + 1)) := by
  rw [List.drop_eq_getElem_cons h, look, if_neg (by rw [he]; decide)]
theorem look_end (nm : ByteArray) (l : List (ByteArray × ByteArray)) (i : Nat) (h : l.length ≤ i) : look nm (l.drop i) = (⟨#[]⟩, false) := by
  rw [List.drop_eq_nil_of_le h, look]

set_option maxRecDepth 100000 in
set_option maxHeartbeats 4000000 in
theorem valclos_any (g : Nat) (nm a v : ByteArray) (w : World) (hg : w.cell? ⟨g, 0, none⟩ = some (.string nm)) :
    Calls Try.prog 25 #[.agg #[.string a, .string v], .pointer (some ⟨g, 0, none⟩)] w fun e w' => e = .returned (.bool (a.toList == nm.toList)) ∧ Below w.heap.size w w' := by
  have hgl := World.block_lt_of_cell? _ _ hg
  have hb1 := (Below.refl w.heap.size w).alloc (Nat.le_refl _) (.cells #[.string a, .string v] 38)
  have hr1 := Blk.new w 38 #[.string a, .string v]
  have hg1 := (hb1.cell (p := ⟨g, 0, none⟩) hgl).trans hg
  have c0 := hr1.cell 0
  simp only [List.getElem?_toArray, List.getElem?_cons_zero] at c0
  have HB := hid hb1
  clear hb1 hr1 hg hgl
  go_enter Try.func25, Try.ntmps25
  cases he : (a.toList == nm.toList)
  · go_wp2_with fail
    go_ret
    exact ⟨rfl, HB.out⟩
  · go_wp2_with fail
    go_ret
    exact ⟨rfl, HB.out⟩

set_option maxRecDepth 100000 in
set_option maxHeartbeats 4000000 in
theorem idx_any (g : Nat) (nm : ByteArray) (l : List (ByteArray × ByteArray)) (v : Value) (w : World) (hg : w.cell? ⟨g, 0, none⟩ = some (.string nm)) (hv : AtRow w v l) (hl63 : l.length ≤ 1048576) :
    Calls Try.prog 24 #[v, .func (.func 25) #[] #[.pointer (some ⟨g, 0, none⟩)]] w fun e w' =>
      (∃ j : Nat, e = .returned (.int .i64 j) ∧ ∃ a, l[j]? = some a ∧ look nm l = (a.2, true)) ∧ Below w.heap.size w w' ∨ (e = .returned (.int .i64 (-1)) ∧ look nm l = (⟨#[]⟩, false)) ∧ Below w.heap.size w w' := by
  have hgl := World.block_lt_of_cell? _ _ hg
  obtain ⟨A, c, rfl, hlc, hr⟩ := hv
  generalize hL : l.length = L at *
  have eg : ∀ (a1 a2 : Value) W, (callFunc 25 #[a1, a2]).run Try.prog W = .ok (.enter 25 #[a1, a2]) W := fun a1 a2 W => by kernel_rfl
  have HR := hid hr
  have HL := hid hL
  have HG := hid hg
  clear hr hL hg
  go_enter Try.func24, Try.ntmps24
  go_wp2_with fail
  go_loopg [8] L (fun kx s8 wr => ∃ (i : Nat), s8 = .int .i64 i ∧ i ≤ L ∧ L - i ≤ kx ∧ Hid (Below w.heap.size w wr) ∧ Hid (look nm l = look nm (l.drop i)))
  case atStart => exact ⟨0, rfl, Nat.zero_le _, by omega, Below.refl _ _, rfl⟩
  case round =>
    obtain ⟨i, rfl, hi, hk, HB, HK⟩ := hrel
    by_cases hlt : i < L
    · have hlt' : (i : Int) < (L : Int) := by omega
      obtain ⟨b, off, rfl, hbl, hcell⟩ := HR.out (by omega)
      have hil : i < l.length := by have := HL.out; omega
      have ha : l[i]? = some l[i] := List.getElem?_eq_getElem hil
      obtain ⟨n1, v1⟩ := hcell i _ ha
      have hhit := look_hit nm l i hil
      have hnext := look_next nm l i hil
      have HIT := hid hhit
      have HNEXT := hid hnext
      have hval : look nm (l.drop i) = (l[i].2, true) → ∃ a, l[i]? = some a ∧ look nm l = (a.2, true) := fun e => ⟨l[i], ha, HK.out.trans e⟩
      have HVAL := hid hval
      clear hhit hnext hval
      have e1 := (HB.out.cell (p := ⟨b, _, none⟩) hbl).trans n1
      have e2 := (HB.out.cell (p := ⟨b, _, none⟩) hbl).trans v1
      have hcl := valclos_any g nm l[i].1 l[i].2 wr ((HB.out.cell (p := ⟨g, 0, none⟩) hgl).trans HG.out)
      generalize l[i] = at_ at *
      obtain ⟨a, v⟩ := at_
      simp only at e1 e2 hcl
      have hi1 : (i : Int) + 1 ≤ 9223372036854775807 := by omega
      cases he : (a.toList == nm.toList)
      · rw [he] at hcl
        have HCL := hid hcl
        have HE := hid he
        clear hcell n1 v1 ha hcl he hgl
        go_wp2_with fail
        refine HCL.out.mono ?_
        rintro e w2 ⟨rfl, hb2⟩
        have HB2 := hid (HB.out.trans (hb2.mono HB.out.size))
        clear hb2
        go_wp2_with fail
        go_roundg (L - (i + 1))
        case measure => omega
        case rel => exact ⟨i + 1, rfl, by omega, Nat.le_refl _, HB2, HK.out.trans (HNEXT.out HE.out)⟩
      · rw [he] at hcl
        have HCL := hid hcl
        have HE := hid he
        clear hcell n1 v1 ha hcl he hgl
        go_wp2_with fail
        refine HCL.out.mono ?_
        rintro e w2 ⟨rfl, hb2⟩
        have HB2 := hid (HB.out.trans (hb2.mono HB.out.size))
        clear hb2
        go_wp2_with fail
        go_ret
        exact .inl ⟨⟨i, rfl, HVAL.out (HIT.out HE.out)⟩, HB2.out⟩
    · have hlt' : ¬ (i : Int) < (L : Int) := by omega
      have HF := hid (HK.out.trans (look_end nm l i (by have := HL.out; omega)))
      go_wp2_with fail
      go_ret
      exact .inr ⟨⟨rfl, HF.out⟩, HB.out⟩

set_option maxRecDepth 100000 in
set_option maxHeartbeats 4000000 in
theorem tagvalue_any (M : Mk) (v : Value) (nm : ByteArray) (w : World) (hv : AtRow w v M.attrs) (hl63 : M.attrs.length ≤ 1048576) :
    Calls Try.prog 13 #[M.val v, .string nm] w fun e w' => e = .returned (.tuple #[.string (look nm M.attrs).1, .bool (look nm M.attrs).2]) ∧ Below w.heap.size w w' := by
  obtain ⟨kd, sz, tn, l, sg, cl⟩ := M
  simp only [Mk.val]
  simp only at hv hl63
  obtain ⟨A, c, rfl, hlc, hr⟩ := id hv
  have hb1 := (Below.refl w.heap.size w).alloc (Nat.le_refl _) (.cells #[.int .i64 kd, .int .i64 sz, .string tn, .slice A l.length c, .bool sg, .bool cl] 26)
  have hr1 := Blk.new w 26 #[.int .i64 kd, .int .i64 sz, .string tn, .slice A l.length c, .bool sg, .bool cl]
  have hs1 : (w.alloc (.cells #[.int .i64 kd, .int .i64 sz, .string tn, .slice A l.length c, .bool sg, .bool cl] 26)).heap.size = w.heap.size + 1 := by simp
  go_enter Try.func13, Try.ntmps13
  go_upto_region 1 with fail
  generalize w.alloc (.cells #[.int .i64 kd, .int .i64 sz, .string tn, .slice A l.length c, .bool sg, .bool cl] 26) = w1 at *
  have hb2 := hb1.alloc (by omega) (.cells #[.string nm] 9)
  have hr2 := hr1.alloc (.cells #[.string nm] 9)
  have hq2 := Blk.new w1 9 #[.string nm]
  rw [hs1] at hq2
  generalize w1.alloc (.cells #[.string nm] 9) = w2 at *
  have c3 := hr2.cell 3
  have d0 := hq2.cell 0
  simp only [List.getElem?_toArray, List.getElem?_cons_zero, List.getElem?_cons_succ] at c3 d0
  have hrow := hv.below (w' := w2) hb2
  have hidx := idx_any (w.heap.size + 1) nm l _ w2 d0 hrow hl63
  have HIDX := hid hidx
  have HB2 := hid hb2
  have HR2 := hid hr2
  have HROW := hid hrow
  clear hv hr hb1 hr1 hs1 hb2 hr2 hq2 hidx hrow d0
  generalize hL : l.length = L at *
  have HL := hid hL
  clear hL
  go_wp2_with fail
  refine HIDX.out.mono ?_
  rintro e w3 (⟨⟨j, rfl, a, hja, hlk⟩, hb3⟩ | ⟨⟨rfl, hlk⟩, hb3⟩)
  · have c3' := (hb3.cell (p := ⟨w.heap.size, 3, none⟩) HR2.out.lt).trans c3
    have hil : j < l.length := (List.getElem?_eq_some_iff.1 hja).1
    have hjl : (j : Int) < (L : Int) := by have := HL.out; omega
    have hj0 : ¬ (j : Int) < 0 := by omega
    obtain ⟨A', cc', hA, _, hrr⟩ := HROW.out.below hb3
    injection hA with hA1 _ hA2
    subst hA1 hA2
    obtain ⟨b, off, rfl, hbl, hcell⟩ := hrr (by omega)
    obtain ⟨n1, v1⟩ := hcell j _ hja
    have hjL : j < L := by omega
    have HLK := hid hlk
    have HB3 := hid (HB2.out.trans (hb3.mono HB2.out.size))
    clear hcell hrr hlk hb3 hja hil c3 HIDX HROW
    go_wp2_with fail
    go_ret2
    rw [HLK.out]
    exact ⟨rfl, HB3.out⟩
  · have HLK := hid hlk
    have HB3 := hid (HB2.out.trans (hb3.mono HB2.out.size))
    clear hlk hb3 HIDX HROW
    go_wp2_with fail
    go_ret2
    rw [HLK.out]
    exact ⟨rfl, HB3.out⟩
end Go.Proofs.Ytpkbmgpbagdalaa
