/- Chapter 16: the document's Open: the walk. -/
import Derived.Test.YtddbbgjpfdcjfaaDoorEnN
namespace Go.Proofs.YtddbbgjpfdcjfaaDoor
open Go.RowKit
open Go.Shelf
open Go.Lib (hid)
set_option linter.unusedVariables false

theorem pre3s (s : ByteArray) (c : UInt8) (h38 : byt s 0 = 38) : preB s ⟨#[38, 35, c]⟩ = decide (3 ≤ s.size ∧ byt s 1 = 35 ∧ byt s 2 = (c.toNat : Int)) := by
  rw [Bool.eq_iff_iff, preB_iff, decide_eq_true_iff]
  show 3 ≤ _ ∧ (∀ i, i < 3 → _) ↔ _
  constructor
  · rintro ⟨h1, h2⟩
    exact ⟨h1, h2 1 (by decide), h2 2 (by decide)⟩
  · rintro ⟨h1, h2, h3⟩
    refine ⟨by omega, fun i hi => ?_⟩
    have : i = 0 ∨ i = 1 ∨ i = 2 := by omega
    rcases this with rfl | rfl | rfl
    · exact h38
    · exact h2
    · exact h3
theorem pre2s (s : ByteArray) (h38 : byt s 0 = 38) : preB s ⟨#[38, 35]⟩ = decide (2 ≤ s.size ∧ byt s 1 = 35) := by
  rw [Bool.eq_iff_iff, preB_iff, decide_eq_true_iff]
  show 2 ≤ _ ∧ (∀ i, i < 2 → _) ↔ _
  constructor
  · rintro ⟨h1, h2⟩
    exact ⟨h1, h2 1 (by decide)⟩
  · rintro ⟨h1, h2⟩
    refine ⟨by omega, fun i hi => ?_⟩
    have : i = 0 ∨ i = 1 := by omega
    rcases this with rfl | rfl
    · exact h38
    · exact h2
/-- Three bytes and fewer that are so. -/
theorem short_is (s : ByteArray) (h38 : byt s 0 = 38) (h : s.size = 1 ∨ (byt s 1 = 35 ∧ (s.size = 2 ∨ s.size = 3 ∧ isX (byt s 2)))) : s = ⟨#[38]⟩ ∨ s = ⟨#[38, 35]⟩ ∨ s = ⟨#[38, 35, 120]⟩ ∨ s = ⟨#[38, 35, 88]⟩ := by
  rcases h with h1 | ⟨h35, h2 | ⟨h3, hx | hx⟩⟩
  · left
    refine ext_byt h1 fun i hi => ?_
    obtain rfl : i = 0 := by omega
    exact h38
  · right; left
    refine ext_byt h2 fun i hi => ?_
    have : i = 0 ∨ i = 1 := by omega
    rcases this with rfl | rfl
    · exact h38
    · exact h35
  · right; right; left
    refine ext_byt h3 fun i hi => ?_
    have : i = 0 ∨ i = 1 ∨ i = 2 := by omega
    rcases this with rfl | rfl | rfl
    · exact h38
    · exact h35
    · exact hx
  · right; right; right
    refine ext_byt h3 fun i hi => ?_
    have : i = 0 ∨ i = 1 ∨ i = 2 := by omega
    rcases this with rfl | rfl | rfl
    · exact h38
    · exact h35
    · exact hx
theorem lit_ne {s : ByteArray} {l : List UInt8} (h : s ≠ ⟨l.toArray⟩) : ¬ s.toList = l ∧ (s.toList == l) = false := by
  have : ¬ s.toList = l := fun e => h (str_toList_inj.1 (by rw [e, Lib.toList_data]))
  exact ⟨this, by simpa using this⟩

set_option maxRecDepth 100000 in
set_option maxHeartbeats 8000000 in
theorem refopen_any (s : ByteArray) (w : World) (hs : s.size ≤ 1000000) :
    Calls Tryd.prog 12 #[.string s] w fun e w' => e = .returned (.bool (refO s)) ∧ Below w.heap.size w w' := by
  by_cases q0 : s = ⟨#[]⟩
  · subst q0
    have HR := hid (show refO ⟨#[]⟩ = false by kernel_rfl)
    go_enter Tryd.func12, Tryd.ntmps12
    go_wp2_with fail
    go_ret
    exact ⟨ret_bool HR.out.symm, Below.refl _ _⟩
  by_cases q1 : s = ⟨#[38]⟩
  · subst q1
    have HR := hid (show refO ⟨#[38]⟩ = true by kernel_rfl)
    go_enter Tryd.func12, Tryd.ntmps12
    go_wp2_with fail
    go_ret
    exact ⟨ret_bool HR.out.symm, Below.refl _ _⟩
  by_cases q2 : s = ⟨#[38, 35]⟩
  · subst q2
    have HR := hid (show refO ⟨#[38, 35]⟩ = true by kernel_rfl)
    go_enter Tryd.func12, Tryd.ntmps12
    go_wp2_with fail
    go_ret
    exact ⟨ret_bool HR.out.symm, Below.refl _ _⟩
  by_cases q3 : s = ⟨#[38, 35, 120]⟩
  · subst q3
    have HR := hid (show refO ⟨#[38, 35, 120]⟩ = true by kernel_rfl)
    go_enter Tryd.func12, Tryd.ntmps12
    go_wp2_with fail
    go_ret
    exact ⟨ret_bool HR.out.symm, Below.refl _ _⟩
  by_cases q4 : s = ⟨#[38, 35, 88]⟩
  · subst q4
    have HR := hid (show refO ⟨#[38, 35, 88]⟩ = true by kernel_rfl)
    go_enter Tryd.func12, Tryd.ntmps12
    go_wp2_with fail
    go_ret
    exact ⟨ret_bool HR.out.symm, Below.refl _ _⟩
  have hsz : 0 < s.size := by
    rcases Nat.eq_zero_or_pos s.size with h | h
    · exact absurd (ext_byt h fun i hi => by omega) q0
    · exact h
  obtain ⟨a0, b0⟩ := lit_ne (l := []) q0
  obtain ⟨a1, b1⟩ := lit_ne (l := [38]) q1
  obtain ⟨a2, b2⟩ := lit_ne (l := [38, 35]) q2
  obtain ⟨a3, b3⟩ := lit_ne (l := [38, 35, 120]) q3
  obtain ⟨a4, b4⟩ := lit_ne (l := [38, 35, 88]) q4
  have a5 : s.toList.isEmpty = false := by simpa using a0
  have hg0 := getC s 0 hsz
  have hs0 : (0 : Int) < (s.size : Int) := by omega
  by_cases h38 : byt s 0 ≠ 38
  · have HR := hid (show refO s = false by unfold refO; rw [if_neg (by omega), if_pos h38])
    generalize byt s 0 = c at *
    have hcb : (c == 38) = false := by simpa using h38
    have hcb2 : (c != 38) = true := by simpa using h38
    clear h38 q0 q1 q2 q3 q4
    go_enter Tryd.func12, Tryd.ntmps12
    go_wp2_with fail
    go_ret
    exact ⟨ret_bool HR.out.symm, Below.refl _ _⟩
  have h38 : byt s 0 = 38 := Classical.byContradiction h38
  have hns : ¬ (s.size = 1 ∨ (byt s 1 = 35 ∧ (s.size = 2 ∨ s.size = 3 ∧ isX (byt s 2)))) := fun h => by
    rcases short_is s h38 h with h | h | h | h
    · exact q1 h
    · exact q2 h
    · exact q3 h
    · exact q4 h
  have hRO : refO s = ((names.any fun x => preB (ampB ++ x.1) s) || (if 3 ≤ s.size ∧ byt s 1 = 35 ∧ isX (byt s 2) then decide (0 ≤ refN 16 6 (s.extract 3 s.size)) else decide (byt s 1 = 35) && decide (0 ≤ refN 10 7 (s.extract 2 s.size)))) := by
    unfold refO
    rw [if_neg (by omega), if_neg (fun h => h h38), if_neg hns]
  have hs2 : 2 ≤ s.size := by omega
  have p3 := pre3s s 120 h38
  have p3' := pre3s s 88 h38
  have p2 := pre2s s h38
  rw [h38] at hg0
  have hxx : isX (byt s 2) ↔ byt s 2 = 120 ∨ byt s 2 = 88 := Iff.rfl
  have B1 := fun W => begins_any s ⟨#[38, 35, 120]⟩ W (by omega) (by decide)
  have B2 := fun W => begins_any s ⟨#[38, 35, 88]⟩ W (by omega) (by decide)
  have B3 := fun W => begins_any s ⟨#[38, 35]⟩ W (by omega) (by decide)
  rw [p3] at B1
  rw [p3'] at B2
  rw [p2] at B3
  obtain ⟨c1, hc1⟩ : ∃ c1, c1 = decide (3 ≤ s.size ∧ byt s 1 = 35 ∧ byt s 2 = ((120 : UInt8).toNat : Int)) := ⟨_, rfl⟩
  obtain ⟨c2, hc2⟩ : ∃ c2, c2 = decide (3 ≤ s.size ∧ byt s 1 = 35 ∧ byt s 2 = ((88 : UInt8).toNat : Int)) := ⟨_, rfl⟩
  obtain ⟨c3, hc3⟩ : ∃ c3, c3 = decide (2 ≤ s.size ∧ byt s 1 = 35) := ⟨_, rfl⟩
  rw [← hc1] at B1
  rw [← hc2] at B2
  rw [← hc3] at B3
  have hend : (if 3 ≤ s.size ∧ byt s 1 = 35 ∧ isX (byt s 2) then decide (0 ≤ refN 16 6 (s.extract 3 s.size)) else decide (byt s 1 = 35) && decide (0 ≤ refN 10 7 (s.extract 2 s.size))) = if c1 || c2 then decide (0 ≤ refN 16 6 (s.extract 3 s.size)) else c3 && decide (0 ≤ refN 10 7 (s.extract 2 s.size)) := by
    have h3 : decide (byt s 1 = 35) = c3 := by rw [hc3]; exact decide_eq_decide.2 ⟨fun h => ⟨hs2, h⟩, fun h => h.2⟩
    rw [h3]
    by_cases h : 3 ≤ s.size ∧ byt s 1 = 35 ∧ isX (byt s 2)
    · rw [if_pos h, if_pos]
      rw [hc1, hc2, Bool.or_eq_true, decide_eq_true_iff, decide_eq_true_iff]
      exact h.2.2.elim (fun k => .inl ⟨h.1, h.2.1, k⟩) fun k => .inr ⟨h.1, h.2.1, k⟩
    · rw [if_neg h, if_neg]
      rw [hc1, hc2, Bool.or_eq_true, decide_eq_true_iff, decide_eq_true_iff]
      rintro (k | k)
      · exact h ⟨k.1, k.2.1, .inl k.2.2⟩
      · exact h ⟨k.1, k.2.1, .inr k.2.2⟩
  have h3z : c1 = true ∨ c2 = true → 3 ≤ s.size := fun h => by
    rcases h with h | h
    · rw [hc1] at h; exact (of_decide_eq_true h).1
    · rw [hc2] at h; exact (of_decide_eq_true h).1
  rw [hend] at hRO
  have HRO := hid hRO
  have HB1 := hid B1
  have HB2 := hid B2
  have HB3 := hid B3
  have H3Z := hid h3z
  have HN16 := hid (fun W => number_any 16 6 (.inr rfl) (by decide) (s.extract 3 s.size) W (by rw [ByteArray.size_extract]; omega))
  have HN10 := hid (fun W => number_any 10 7 (.inl rfl) (by decide) (s.extract 2 s.size) W (by rw [ByteArray.size_extract]; omega))
  have hs2' : (2 : Int) ≤ (s.size : Int) := by omega
  clear hRO B1 B2 B3 h3z hend hc1 hc2 hc3 p3 p3' p2 hxx hns q0 q1 q2 q3 q4 h38
  go_enter Tryd.func12, Tryd.ntmps12
  go_wp2_with fail
  refine (refnames_any w).mono ?_
  rintro e w1 ⟨rfl, hr1, hb1⟩
  have HB1w := hid hb1
  have hcl : ∀ j, j < 26 → w1.cell? ⟨w.heap.size, j * 2, none⟩ = some (.string (nameAt j).1) ∧ w1.cell? ⟨w.heap.size, j * 2 + 1, none⟩ = some (.int .i32 (nameAt j).2) := by
    intro j hj
    have := rowsV_get j (by rw [names_len]; exact hj)
    rw [hr1.cell, hr1.cell, nameAt_is (by rw [names_len]; exact hj)]
    exact this
  have HCL := hid hcl
  clear hr1 hb1 hcl a0 a1 a2 a3 a4 b0 b1 b2 b3 b4 a5
  go_wp2_with fail
  go_loopg [4] 26 (fun kx s4 wr => ∃ i : Nat, s4 = .int .i64 i ∧ i ≤ 26 ∧ 26 - i ≤ kx ∧ wr = w1 ∧ Hid (∀ j, j < i → preB (ampB ++ (nameAt j).1) s = false))
  case atStart => exact ⟨0, rfl, Nat.zero_le _, by omega, rfl, fun j hj => absurd hj (Nat.not_lt_zero _)⟩
  case round =>
    obtain ⟨i, rfl, hi, hg, hw, A⟩ := hrel
    obtain rfl : w1 = wr := hw.symm
    by_cases hlt : i < 26
    · have hlt' : (i : Int) < 26 := by omega
      obtain ⟨k1, k2⟩ := HCL.out i hlt
      have hil : i < names.length := by rw [names_len]; exact hlt
      have hz6 : (nameAt i).1.size ≤ 6 := by rw [nameAt_is hil]; exact (names_fact (List.getElem_mem hil)).2.1
      have hany : preB (ampB ++ (nameAt i).1) s = true → refO s = true := fun h => by
        have : (names.any fun x => preB (ampB ++ x.1) s) = true := List.any_eq_true.2 ⟨nameAt i, by rw [nameAt_is hil]; exact List.getElem_mem hil, h⟩
        rw [HRO.out, this, Bool.true_or]
      have hnext : preB (ampB ++ (nameAt i).1) s = false → ∀ j, j < i + 1 → preB (ampB ++ (nameAt j).1) s = false := fun h j hj => by
        by_cases e : j = i
        · subst e; exact h
        · exact A.out j (by omega)
      have hbe := fun W => begins_any (ampB ++ (nameAt i).1) s W (by rw [ByteArray.size_append]; show 1 + _ ≤ _; omega) (by omega)
      generalize (nameAt i).1 = x at *
      have hcz : ¬ ((⟨#[38]⟩ : ByteArray).size + x.size > 9223372036854775807) := by show ¬ (1 + x.size > _); omega
      have hcz2 : ¬ (1 + x.size > 9223372036854775807) := by omega
      have hcz3 : ¬ (9223372036854775807 < 1 + x.size) := by omega
      cases hp : preB (ampB ++ x) s
      · rw [hp] at hbe
        have HNX := hid (hnext hp)
        have HBE := hid hbe
        clear hany hnext hbe hp
        go_wp2_with (go_at_call 26; refine (HBE.out _).mono ?_; rintro e w2 ⟨rfl, hw2⟩; obtain rfl : w1 = w2 := hw2.symm)
        go_roundg (26 - (i + 1))
        case measure => omega
        case rel => exact ⟨i + 1, by go_num, by omega, Nat.le_refl _, rfl, HNX⟩
      · rw [hp] at hbe
        have HT := hid (hany hp)
        have HBE := hid hbe
        clear hany hnext hbe hp
        go_wp2_with (go_at_call 26; refine (HBE.out _).mono ?_; rintro e w2 ⟨rfl, hw2⟩; obtain rfl : w1 = w2 := hw2.symm)
        go_ret
        exact ⟨ret_bool HT.out.symm, HB1w.out⟩
    · have hlt' : ¬ (i : Int) < 26 := by omega
      have hno : (names.any fun x => preB (ampB ++ x.1) s) = false := by
        rw [Bool.eq_false_iff]
        intro h
        obtain ⟨x, hx, hp⟩ := List.any_eq_true.1 h
        obtain ⟨j, hj, rfl⟩ := List.mem_iff_getElem.1 hx
        have := A.out j (by rw [names_len] at hj; omega)
        rw [nameAt_is hj] at this
        rw [this] at hp; cases hp
      have hres := HRO.out
      rw [hno, Bool.false_or] at hres
      have HRES := hid hres
      clear hno hres hi hg hlt
      go_wp2_with fail
      refine (HB1.out w1).mono ?_
      rintro e w2 ⟨rfl, hw2⟩
      obtain rfl : w1 = w2 := hw2.symm
      cases c1
      · go_wp2_with fail
        refine (HB2.out w1).mono ?_
        rintro e w2 ⟨rfl, hw2⟩
        obtain rfl : w1 = w2 := hw2.symm
        cases c2
        · go_wp2_with fail
          refine (HB3.out w1).mono ?_
          rintro e w2 ⟨rfl, hw2⟩
          obtain rfl : w1 = w2 := hw2.symm
          cases c3
          · go_wp2_with fail
            go_ret
            exact ⟨by rw [HRES.out]; rfl, HB1w.out⟩
          · go_wp2_with fail
            refine (HN10.out w1).mono ?_
            rintro e w2 ⟨rfl, hw2⟩
            obtain rfl : w1 = w2 := hw2.symm
            go_wp2_with fail
            go_ret
            exact ⟨by rw [HRES.out]; rfl, HB1w.out⟩
        · have hz3 := H3Z.out (.inr rfl)
          have hz3' : (3 : Int) ≤ (s.size : Int) := by omega
          go_wp2_with fail
          refine (HN16.out w1).mono ?_
          rintro e w2 ⟨rfl, hw2⟩
          obtain rfl : w1 = w2 := hw2.symm
          go_wp2_with fail
          go_ret
          exact ⟨by rw [HRES.out]; rfl, HB1w.out⟩
      · have hz3 := H3Z.out (.inl rfl)
        have hz3' : (3 : Int) ≤ (s.size : Int) := by omega
        go_wp2_with fail
        refine (HN16.out w1).mono ?_
        rintro e w2 ⟨rfl, hw2⟩
        obtain rfl : w1 = w2 := hw2.symm
        go_wp2_with fail
        go_ret
        exact ⟨by rw [HRES.out]; rfl, HB1w.out⟩
end Go.Proofs.YtddbbgjpfdcjfaaDoor
