/- Chapter 16: the document's whole reference, and its reading: walks. -/
import Derived.Test.YtddbbgjpfdcjfaaDoorEnE
namespace Go.Proofs.YtddbbgjpfdcjfaaDoor
open Go.RowKit
open Go.Shelf
open Go.Lib (hid)
set_option linter.unusedVariables false

theorem refW_short {s : ByteArray} (h : s.size < 3 ∨ byt s 0 ≠ 38 ∨ byt s (s.size - 1) ≠ 59) : refW s = -1 := by unfold refW; rw [if_pos h]
theorem findN_none {x : ByteArray} (h : ∀ j, j < 26 → (nameAt j).1 ≠ x) : findN x = none := by
  unfold findN
  rw [find_nothing _ names fun j hj => by
    have hj' : j < 26 := by rw [← names_len]; exact hj
    rw [← nameAt_is hj]
    exact decide_eq_false (h j hj')]
  rfl
theorem findN_at {x : ByteArray} {k : Nat} (hk : k < 26) (h1 : (nameAt k).1 = x) (h : ∀ j, j < k → (nameAt j).1 ≠ x) : findN x = some (nameAt k).2 := by
  have hl := names_len
  unfold findN
  rw [find_first (fun x_1 => decide (x_1.1 = x)) names k (by omega) (by rw [← nameAt_is (by omega)]; exact decide_eq_true h1) (fun j hj => by rw [← nameAt_is (by omega)]; exact decide_eq_false (h j hj)), nameAt_is (by omega)]
  rfl
set_option maxRecDepth 100000 in
set_option maxHeartbeats 8000000 in
theorem whole_any (s : ByteArray) (w : World) (hs : s.size ≤ 1000000) :
    Calls Tryd.prog 22 #[.string s] w fun e w' => e = .returned (.int .i32 (refW s)) ∧ Below w.heap.size w w' := by
  by_cases h3 : s.size < 3
  · have h3' : (s.size : Int) < 3 := by omega
    have HR := hid (refW_short (.inl h3))
    clear h3
    go_enter Tryd.func22, Tryd.ntmps22
    go_wp2_with fail
    go_ret
    exact ⟨ret_int HR.out.symm, Below.refl _ _⟩
  have h3' : ¬ (s.size : Int) < 3 := by omega
  have hg0 := getC s 0 (by omega)
  obtain ⟨m, hm⟩ : ∃ m, s.size = m + 1 := ⟨s.size - 1, by omega⟩
  have hlm : m < s.size := by omega
  have hgm := getC s m hlm
  have hsz1 : (s.size : Int) - 1 = (m : Int) := by omega
  have hml : (m : Int) < (s.size : Int) := by omega
  have hms : refW s = if byt s 0 ≠ 38 ∨ byt s m ≠ 59 then -1 else match findN (s.extract 1 m) with
      | some r => r
      | none => if byt s 1 ≠ 35 then -1 else if 3 < s.size ∧ isX (byt s 2) then refN 16 6 (s.extract 3 m) else refN 10 7 (s.extract 2 m) := by
    unfold refW
    rw [show s.size - 1 = m by omega]
    by_cases hc : byt s 0 ≠ 38 ∨ byt s m ≠ 59
    · rw [if_pos hc, if_pos (.inr hc)]
    · rw [if_neg hc, if_neg (fun h => h.elim h3 hc)]
      rfl
  have hm2 : 2 ≤ m := by omega
  by_cases h38 : byt s 0 ≠ 38
  · rw [if_pos (.inl h38)] at hms
    have HR := hid hms
    generalize byt s 0 = c0 at *
    have hb0 : (c0 == 38) = false := by simpa using h38
    clear h38 hgm hms hm
    go_enter Tryd.func22, Tryd.ntmps22
    go_wp2_with fail
    go_ret
    exact ⟨ret_int HR.out.symm, Below.refl _ _⟩
  have h38 : byt s 0 = 38 := Classical.byContradiction h38
  by_cases h59 : byt s m ≠ 59
  · rw [if_pos (.inr h59)] at hms
    have HR := hid hms
    rw [h38] at hg0
    generalize byt s m = cm at *
    have hb0 : (cm == 59) = false := by simpa using h59
    clear h38 hms hm h59
    go_enter Tryd.func22, Tryd.ntmps22
    go_wp2_with fail
    go_ret
    exact ⟨ret_int HR.out.symm, Below.refl _ _⟩
  have h59 : byt s m = 59 := Classical.byContradiction h59
  rw [if_neg (fun h => h.elim (fun h => h h38) fun h => h h59)] at hms
  rw [h38] at hg0
  rw [h59] at hgm
  obtain ⟨t, ht⟩ : ∃ t, t = s.extract 1 m := ⟨_, rfl⟩
  have hts : t.size = m - 1 := by rw [ht, ByteArray.size_extract]; omega
  have htb : ∀ i, i < m - 1 → byt t i = byt s (1 + i) := fun i hi => by rw [ht, byt_extract s 1 m i (by omega) (by omega)]
  have hte : ∀ i, 1 ≤ i → t.extract i t.size = s.extract (i + 1) m := fun i hi => by
    apply ext_byt
    · rw [ByteArray.size_extract, ByteArray.size_extract]; omega
    · intro j hj
      rw [ByteArray.size_extract] at hj
      rw [byt_extract t i _ j (by omega) (Nat.le_refl _), htb _ (by omega), byt_extract s _ m j (by omega) (by omega)]
      congr 1
      omega
  rw [← ht, ← hte 2 (by omega), ← hte 1 (by omega), ← htb 0 (by omega)] at hms
  have hx2 : 3 < s.size → byt s 2 = byt t 1 := fun h => by rw [htb 1 (by omega)]
  have hms2 : refW s = match findN t with
      | some r => r
      | none => if byt t 0 ≠ 35 then -1 else if 1 < t.size ∧ isX (byt t 1) then refN 16 6 (t.extract 2 t.size) else refN 10 7 (t.extract 1 t.size) := by
    rw [hms]
    have : (3 < s.size ∧ isX (byt s 2)) ↔ (1 < t.size ∧ isX (byt t 1)) := by
      constructor
      · rintro ⟨h1, h2⟩; exact ⟨by omega, by rw [← hx2 h1]; exact h2⟩
      · rintro ⟨h1, h2⟩; exact ⟨by omega, by rw [hx2 (by omega)]; exact h2⟩
    simp only [this]
  have htz : 1 ≤ t.size := by omega
  have htl : t.size ≤ 1000000 := by omega
  have HR := hid hms2
  have HT := hid ht
  clear hms hms2 h38 h59 hts htb hte hx2 hm ht
  go_enter Tryd.func22, Tryd.ntmps22
  go_wp2_with fail
  rw [← HT.out]
  refine (refnames_any w).mono ?_
  rintro e w1 ⟨rfl, hr1, hb1⟩
  have HR1 := hid hr1
  have HB1 := hid hb1
  have hcl : ∀ j, j < 26 → w1.cell? ⟨w.heap.size, j * 2, none⟩ = some (.string (nameAt j).1) ∧ w1.cell? ⟨w.heap.size, j * 2 + 1, none⟩ = some (.int .i32 (nameAt j).2) := by
    intro j hj
    have := rowsV_get j (by rw [names_len]; exact hj)
    rw [hr1.cell, hr1.cell, nameAt_is (by rw [names_len]; exact hj)]
    exact this
  have HCL := hid hcl
  clear hr1 hb1 hcl
  clear hsz1 hgm hg0 hml h3' h3 hm2 hs
  go_wp2_with fail
  go_loopg [6] 26 (fun kx s6 wr => ∃ i : Nat, s6 = .int .i64 i ∧ i ≤ 26 ∧ 26 - i ≤ kx ∧ wr = w1 ∧ Hid (∀ j, j < i → (nameAt j).1 ≠ t))
  case atStart => exact ⟨0, rfl, Nat.zero_le _, by omega, rfl, fun j hj => absurd hj (Nat.not_lt_zero _)⟩
  case round =>
    obtain ⟨i, rfl, hi, hg, hw, A⟩ := hrel
    obtain rfl : w1 = wr := hw.symm
    by_cases hlt : i < 26
    · have hlt' : (i : Int) < 26 := by omega
      obtain ⟨c1, c2⟩ := HCL.out i hlt
      have hfa := findN_at (x := t) hlt
      have hneg : (nameAt i).1 ≠ t → ∀ j, j < i + 1 → (nameAt j).1 ≠ t := fun h j hj => by
        by_cases e : j = i
        · subst e; exact h
        · exact A.out j (by omega)
      generalize (nameAt i).1 = x at *
      generalize (nameAt i).2 = r at *
      by_cases hx : x = t
      · have hres := HR.out
        rw [hfa hx A.out] at hres
        have HRES := hid hres
        subst hx
        clear hfa hneg hres
        go_wp2_with fail
        go_ret
        exact ⟨ret_int HRES.out.symm, HB1.out⟩
      · have hne := str_ne hx
        have HNG := hid (hneg hx)
        clear hfa hneg
        go_wp2_with fail
        go_roundg (26 - (i + 1))
        case measure => omega
        case rel => exact ⟨i + 1, by go_num, by omega, Nat.le_refl _, rfl, HNG⟩
    · have hlt' : ¬ (i : Int) < 26 := by omega
      have hres := HR.out
      rw [findN_none fun j hj => A.out j (by omega)] at hres
      simp only at hres
      have hg0 := getC t 0 (by omega)
      have ht0 : (0 : Int) < (t.size : Int) := by omega
      clear hi hg hlt
      by_cases h35 : byt t 0 ≠ 35
      · rw [if_pos h35] at hres
        have HRES := hid hres
        generalize byt t 0 = c0 at *
        have hb0 : (c0 == 35) = false := by simpa using h35
        clear h35 hres
        go_wp2_with fail
        go_ret
        exact ⟨ret_int HRES.out.symm, HB1.out⟩
      rw [if_neg h35] at hres
      rw [Classical.byContradiction h35] at hg0
      clear h35
      by_cases h1 : 1 < t.size
      · have h1' : (1 : Int) < (t.size : Int) := by omega
        have hgx := getC t 1 h1
        have hxi : isX (byt t 1) ↔ byt t 1 = 120 ∨ byt t 1 = 88 := Iff.rfl
        generalize byt t 1 = c1 at *
        by_cases h120 : c1 = 120
        · subst h120
          rw [if_pos ⟨h1, .inl rfl⟩] at hres
          have HN := hid (fun W => number_any 16 6 (.inr rfl) (by decide) (t.extract 2 t.size) W (by rw [ByteArray.size_extract]; omega))
          have HRES := hid hres
          have hl2 : (2 : Int) ≤ (t.size : Int) := by omega
          clear hres hxi
          go_wp2_with (go_at_call 27; refine (HN.out _).mono ?_; rintro e w2 ⟨rfl, hw2⟩; obtain rfl : w1 = w2 := hw2.symm)
          go_ret
          exact ⟨ret_int HRES.out.symm, HB1.out⟩
        · have hb120 : (c1 == 120) = false := by simpa using h120
          by_cases h88 : c1 = 88
          · subst h88
            rw [if_pos ⟨h1, .inr rfl⟩] at hres
            have HN := hid (fun W => number_any 16 6 (.inr rfl) (by decide) (t.extract 2 t.size) W (by rw [ByteArray.size_extract]; omega))
            have HRES := hid hres
            have hl2 : (2 : Int) ≤ (t.size : Int) := by omega
            clear hres hxi
            go_wp2_with (go_at_call 27; refine (HN.out _).mono ?_; rintro e w2 ⟨rfl, hw2⟩; obtain rfl : w1 = w2 := hw2.symm)
            go_ret
            exact ⟨ret_int HRES.out.symm, HB1.out⟩
          · have hb88 : (c1 == 88) = false := by simpa using h88
            rw [if_neg (fun h => h.2.elim h120 h88)] at hres
            have HN := hid (fun W => number_any 10 7 (.inl rfl) (by decide) (t.extract 1 t.size) W (by rw [ByteArray.size_extract]; omega))
            have HRES := hid hres
            have hl2 : (1 : Int) ≤ (t.size : Int) := by omega
            clear hres hxi h120 h88
            go_wp2_with (go_at_call 27; refine (HN.out _).mono ?_; rintro e w2 ⟨rfl, hw2⟩; obtain rfl : w1 = w2 := hw2.symm)
            go_ret
            exact ⟨ret_int HRES.out.symm, HB1.out⟩
      · have h1' : ¬ (1 : Int) < (t.size : Int) := by omega
        rw [if_neg (fun h => h1 h.1)] at hres
        have HN := hid (fun W => number_any 10 7 (.inl rfl) (by decide) (t.extract 1 t.size) W (by rw [ByteArray.size_extract]; omega))
        have HRES := hid hres
        have hl2 : (1 : Int) ≤ (t.size : Int) := by omega
        clear hres h1
        go_wp2_with (go_at_call 27; refine (HN.out _).mono ?_; rintro e w2 ⟨rfl, hw2⟩; obtain rfl : w1 = w2 := hw2.symm)
        go_ret
        exact ⟨ret_int HRES.out.symm, HB1.out⟩
end Go.Proofs.YtddbbgjpfdcjfaaDoor
