/- Chapter 16: the document's number and whole reference: walks. -/
import Derived.Test.YtddbbgjpfdcjfaaDoorEnD
namespace Go.Proofs.YtddbbgjpfdcjfaaDoor
open Go.RowKit
open Go.Shelf
open Go.Lib (hid)
set_option linter.unusedVariables false

def rightR (r : Int) : Bool := decide (0 ≤ r) && decide (r ≤ 1114111) && (decide (r < 55296) || decide (57343 < r))
theorem rightR_iff (r : Int) : rightR r = true ↔ rightV r := by
  unfold rightR rightV
  simp only [Bool.and_eq_true, Bool.or_eq_true, decide_eq_true_iff]
  constructor
  · rintro ⟨⟨h1, h2⟩, h3⟩; exact ⟨h1, h2, h3⟩
  · rintro ⟨h1, h2, h3⟩; exact ⟨⟨h1, h2⟩, h3⟩
theorem refright_any (r : Int) (w : World) : Calls Tryd.prog 18 #[.int .i32 r] w fun e w' => e = .returned (.bool (rightR r)) ∧ w' = w := by
  by_cases h1 : 0 ≤ r
  · by_cases h2 : r ≤ 1114111
    · by_cases h3 : r < 55296
      · have HB := hid (show rightR r = true by simp [rightR]; omega)
        go_enter Tryd.func18, Tryd.ntmps18
        go_wp2
        go_ret
        exact ⟨ret_bool HB.out.symm, rfl⟩
      · by_cases h4 : 57343 < r
        · have HB := hid (show rightR r = true by simp [rightR]; omega)
          go_enter Tryd.func18, Tryd.ntmps18
          go_wp2
          go_ret
          exact ⟨ret_bool HB.out.symm, rfl⟩
        · have HB := hid (show rightR r = false by simp [rightR]; omega)
          go_enter Tryd.func18, Tryd.ntmps18
          go_wp2
          go_ret
          exact ⟨ret_bool HB.out.symm, rfl⟩
    · have HB := hid (show rightR r = false by simp [rightR]; omega)
      go_enter Tryd.func18, Tryd.ntmps18
      go_wp2
      go_ret
      exact ⟨ret_bool HB.out.symm, rfl⟩
  · have HB := hid (show rightR r = false by simp [rightR]; omega)
    go_enter Tryd.func18, Tryd.ntmps18
    go_wp2
    go_ret
    exact ⟨ret_bool HB.out.symm, rfl⟩

def numL (base : Int) (l : List Int) : Int := l.foldl (fun n c => base * n + digV c) 0
theorem numL_snoc (base : Int) (l : List Int) (c : Int) : numL base (l ++ [c]) = base * numL base l + digV c := by
  unfold numL
  rw [List.foldl_append]
  rfl
theorem ints_take {s : ByteArray} {i : Nat} (h : i < s.size) : (intsOf s).take (i + 1) = (intsOf s).take i ++ [byt s i] := by
  have hl : i < (intsOf s).length := by rw [intsOf_len]; exact h
  rw [List.take_add_one, List.getElem?_eq_getElem hl, ← intsOf_get, List.getD_eq_getElem?_getD, List.getElem?_eq_getElem hl]
  rfl
theorem pOf_yes {base : Nat} {c : Int} (hb : base = 10 ∨ base = 16) (h : pOf base c = true) : digR c = digV c ∧ 0 ≤ digV c ∧ digV c < base := by
  have key : decP c = true → digR c = digV c ∧ 0 ≤ digV c ∧ digV c < 10 := fun h => by
    have hd := of_decide_eq_true h
    have hx : hexP c = true := by unfold hexP; rw [h, Bool.true_or]
    have hv : digV c = c - 48 := by unfold digV; rw [if_pos h]
    refine ⟨by unfold digR; rw [if_pos hx], by omega, by omega⟩
  rcases hb with rfl | rfl
  · exact key h
  · have hx : hexP c = true := h
    cases hd : decP c
    · have hx' := hx
      unfold hexP at hx'
      rw [hd, Bool.false_or, Bool.or_eq_true, decide_eq_true_iff, decide_eq_true_iff] at hx'
      refine ⟨by unfold digR; rw [if_pos hx], ?_, ?_⟩
      · unfold digV; rw [hd, if_neg (by decide)]; split <;> omega
      · unfold digV; rw [hd, if_neg (by decide)]; split <;> omega
    · have := key hd
      exact ⟨this.1, this.2.1, by omega⟩
theorem pOf_no {base : Nat} {c : Int} (hb : base = 10 ∨ base = 16) (h : pOf base c = false) : digR c < 0 ∨ (0 ≤ digR c ∧ (base : Int) ≤ digR c) := by
  rcases hb with rfl | rfl
  · have hd : decP c = false := h
    unfold digR
    cases hx : hexP c
    · rw [if_neg (by decide)]; exact .inl (by decide)
    · rw [if_pos rfl]
      right
      unfold hexP at hx
      rw [hd, Bool.false_or, Bool.or_eq_true, decide_eq_true_iff, decide_eq_true_iff] at hx
      unfold digV
      rw [hd, if_neg (by decide)]
      constructor
      · split <;> omega
      · split <;> omega
  · have hx : hexP c = false := h
    unfold digR
    rw [hx, if_neg (by decide)]
    exact .inl (by decide)
theorem pow_small : ∀ i : Nat, i ≤ 7 → (16 : Int) ^ i ≤ 268435456
  | 0, _ => by decide
  | 1, _ => by decide
  | 2, _ => by decide
  | 3, _ => by decide
  | 4, _ => by decide
  | 5, _ => by decide
  | 6, _ => by decide
  | 7, _ => by decide
  | n + 8, h => by omega
theorem refN_none {base most : Nat} {s : ByteArray} (h : s.size = 0 ∨ most < s.size ∨ ∃ i, i < s.size ∧ pOf base (byt s i) = false) : refN base most s = -1 := by
  unfold refN
  rw [if_pos]
  rcases h with h | h | ⟨i, hi, h⟩
  · exact .inl h
  · exact .inr (.inl h)
  · refine .inr (.inr ?_)
    cases ha : allP (pOf base) s
    · rfl
    · rw [(allP_iff _ _).1 ha i hi] at h; cases h

set_option maxRecDepth 100000 in
set_option maxHeartbeats 4000000 in
theorem number_any (base most : Nat) (hb : base = 10 ∨ base = 16) (hm : most ≤ 7) (s : ByteArray) (w : World) (hs : s.size ≤ 9223372036854775807) :
    Calls Tryd.prog 27 #[.string s, .int .i64 base, .int .i64 most] w fun e w' => e = .returned (.int .i32 (refN base most s)) ∧ w' = w := by
  by_cases h0 : s.size = 0
  · have h0' : (s.size : Int) = 0 := by omega
    have HR := hid (refN_none (base := base) (most := most) (.inl h0))
    clear h0
    go_enter Tryd.func27, Tryd.ntmps27
    go_wp2_with fail
    go_ret
    exact ⟨ret_int HR.out.symm, rfl⟩
  · have h0' : ((s.size : Int) == 0) = false := by rw [beq_eq_false_iff_ne]; omega
    by_cases h1 : most < s.size
    · have h1' : (most : Int) < (s.size : Int) := by omega
      have HR := hid (refN_none (base := base) (.inr (.inl h1)))
      clear h0 h1
      go_enter Tryd.func27, Tryd.ntmps27
      go_wp2_with fail
      go_ret
      exact ⟨ret_int HR.out.symm, rfl⟩
    · have h1' : ¬ (most : Int) < (s.size : Int) := by omega
      have hne : ¬ s = ByteArray.empty := fun e => h0 (by rw [e]; rfl)
      have hyes := fun c => pOf_yes (c := c) hb
      have hno := fun c => pOf_no (c := c) hb
      have hrn : (∃ i, i < s.size ∧ pOf base (byt s i) = false) → refN base most s = -1 := fun h => refN_none (.inr (.inr h))
      have hry : (∀ i, i < s.size → pOf base (byt s i) = true) → refN base most s = scal (numL base (intsOf s)) := fun h => refN_yes (by omega) (by omega) h
      have hstep := fun l c => numL_snoc (base : Int) l c
      have hzero : numL (base : Int) [] = 0 := rfl
      generalize refN base most s = R at *
      generalize numL (base : Int) = N at *
      generalize pOf base = P at *
      have HSTEP := hid hstep
      have HZERO := hid hzero
      have HYES := hid hyes
      have HNO := hid hno
      have HRN := hid hrn
      have HRY := hid hry
      have hn7 : s.size ≤ 7 := by omega
      clear hyes hno hrn hry h0 h1 hstep hzero
      go_enter Tryd.func27, Tryd.ntmps27
      rcases hb with rfl | rfl
      all_goals
        go_wp2_with fail
        go_loopg [7, 8] s.size (fun kx s7 s8 wr => ∃ (i : Nat) (v : Int), s7 = .int .i64 v ∧ s8 = .int .i64 i ∧ i ≤ s.size ∧ s.size - i ≤ kx ∧ wr = w ∧ Hid (v = N ((intsOf s).take i)) ∧ Hid (0 ≤ v ∧ v < 16 ^ i) ∧ Hid (∀ j, j < i → P (byt s j) = true))
        case atStart => exact ⟨0, 0, rfl, rfl, Nat.zero_le _, by omega, rfl, HZERO.out.symm, ⟨by decide, by decide⟩, fun j hj => absurd hj (Nat.not_lt_zero _)⟩
        case round =>
          obtain ⟨i, v, rfl, rfl, hi, hg, hw, HV, HVB, HALL⟩ := hrel
          obtain rfl : w = wr := hw.symm
          by_cases hlt : i < s.size
          · have hlt' : (i : Int) < (s.size : Int) := by omega
            have hgb := getC s i hlt
            have hy1 := HYES.out (byt s i)
            have hn1 := HNO.out (byt s i)
            have hr1 := fun h => HRN.out ⟨i, hlt, h⟩
            have htk := ints_take hlt
            have hal : P (byt s i) = true → ∀ j, j < i + 1 → P (byt s j) = true := fun h j hj => by
              by_cases e : j = i
              · subst e; exact h
              · exact HALL.out j (by omega)
            have hdg := digit_any (byt s i) w
            have hp28 := pow_small i (by omega)
            have hv0 := HVB.out.1
            have hv1 : v < 268435456 := by have := HVB.out.2; omega
            generalize byt s i = c at *
            have HTK := hid htk
            have HDG := hid hdg
            have HAL := hid hal
            clear htk hdg hal hp28
            cases hpc : P c
            · have HR := hid (hr1 hpc)
              have hn2 := hn1 hpc
              clear hn1 hr1 hpc hy1
              generalize digR c = d at *
              go_wp2_with fail
              refine HDG.out.mono ?_
              rintro e w2 ⟨rfl, hw2⟩
              obtain rfl : w = w2 := hw2.symm
              rcases hn2 with hn2 | ⟨hn2, hn3⟩
              · go_wp2_with fail
                go_ret
                exact ⟨ret_int HR.out.symm, rfl⟩
              · have hn4 : ¬ d < 0 := by omega
                go_wp2_with fail
                go_ret
                exact ⟨ret_int HR.out.symm, rfl⟩
            · obtain ⟨q1, q2, q3⟩ := hy1 hpc
              have HALL2 := hid (HAL.out hpc)
              have hst := HSTEP.out ((intsOf s).take i) c
              rw [← HV.out, ← HTK.out] at hst
              rw [q1] at HDG
              have HST := hid hst
              have HP16 := hid (show (16 : Int) ^ (i + 1) = 16 ^ i * 16 from Int.pow_succ 16 i)
              clear hn1 hr1 hpc q1 hst
              generalize digV c = d at *
              have hd0 : ¬ d < 0 := by omega
              have hd1 := Int.not_le.2 q3
              go_wp2_with fail
              refine HDG.out.mono ?_
              rintro e w2 ⟨rfl, hw2⟩
              obtain rfl : w = w2 := hw2.symm
              go_wp2_with fail
              go_roundg (s.size - (i + 1))
              case measure => omega
              case rel =>
                refine ⟨i + 1, _, rfl, by go_num, by omega, Nat.le_refl _, rfl, ?_, ?_, HALL2⟩
                · show _ = _
                  rw [HST.out]
                  rfl
                · show 0 ≤ _ ∧ _ < _
                  rw [HP16.out]
                  have := HVB.out.2
                  constructor <;> omega
          · have hlt' : ¬ (i : Int) < (s.size : Int) := by omega
            have hta : (intsOf s).take i = intsOf s := List.take_of_length_le (by rw [intsOf_len]; omega)
            have hv := HV.out
            rw [hta] at hv
            have hry := HRY.out fun j hj => HALL.out j (by omega)
            rw [← hv] at hry
            have hv0 := HVB.out.1
            have hv1 : v < 268435456 := by have := HVB.out.2; have := pow_small i (by omega); omega
            clear hta hv
            have hrr := fun W => refright_any v W
            by_cases hz : v = 0
            · subst hz
              have HR := hid hry
              clear hry hrr
              go_wp2_with fail
              go_ret
              exact ⟨ret_int HR.out.symm, rfl⟩
            · have hzb : (v == 0) = false := by simpa using hz
              cases hr : rightR v
              · rw [hr] at hrr
                have HRR := hid hrr
                have HR := hid (hry.trans (show scal v = 65533 from if_pos (.inr fun h => by rw [(rightR_iff v).2 h] at hr; cases hr)))
                clear hr hry hrr hz
                go_wp2_with (go_at_call 18; refine (HRR.out _).mono ?_; rintro e w2 ⟨rfl, hw2⟩; obtain rfl : w = w2 := hw2.symm)
                go_ret
                exact ⟨ret_int HR.out.symm, rfl⟩
              · rw [hr] at hrr
                have HRR := hid hrr
                have HR := hid (hry.trans (show scal v = v from if_neg fun h => h.elim hz fun h => h ((rightR_iff v).1 hr)))
                clear hr hry hrr hz
                go_wp2_with (go_at_call 18; refine (HRR.out _).mono ?_; rintro e w2 ⟨rfl, hw2⟩; obtain rfl : w = w2 := hw2.symm)
                go_ret
                exact ⟨ret_int HR.out.symm, rfl⟩
end Go.Proofs.YtddbbgjpfdcjfaaDoor
