/- Chapter 02: Make, Same: the walks. -/
import Derived.Test.YtbkjanlkklmleaaGreatDoorRgV
import Derived.Test.YtbkjanlkklmleaaGreatDoorRgE
namespace Go.Proofs.YtbkjanlkklmleaaGreatDoor
open Go.RowKit
open Go.Lib (hid)
set_option linter.unusedVariables false
set_option maxRecDepth 100000

theorem notright_any (lo hi : Int) (w : World) : Calls Tryz.prog 24 #[.agg #[.int .i32 lo, .int .i32 hi]] w fun e w' => e = .returned (.bool (!okB (lo, hi))) ∧ Below w.heap.size w w' := by
  go_enter Tryz.func24, Tryz.ntmps24
  go_wp2_with fail
  refine (right_any lo hi _).mono ?_
  rintro e w2 ⟨rfl, hb⟩
  have HB := hid hb
  clear hb
  go_wp2_with fail
  go_ret
  exact ⟨rfl, ((Below.refl _ _).alloc (Nat.le_refl _) _).trans (HB.out.mono (by simp))⟩
/-- Is one of them none that may be. -/
def badB (l : List Rg) : Bool := l.any fun x => !okB x
def firstBad (l : List Rg) : Int := if badB l = true then ((l.findIdx fun x => !okB x : Nat) : Int) else -1
theorem badB_no {l : List Rg} (h : badB l = false) : ∀ x ∈ l, okR x := fun x hx => by
  unfold badB at h
  rw [List.any_eq_false] at h
  have := h x hx
  unfold okB at this
  simpa using this
theorem badB_yes {l : List Rg} {i : Nat} (h : i < l.length) (hb : okB l[i] = false) : badB l = true := by
  unfold badB
  rw [List.any_eq_true]
  exact ⟨_, List.getElem_mem h, by rw [hb]; rfl⟩
theorem badB_none {l : List Rg} (h : ∀ j (hj : j < l.length), okB l[j] = true) : badB l = false := by
  unfold badB
  rw [List.any_eq_false]
  intro x hx
  obtain ⟨j, hj, rfl⟩ := List.mem_iff_getElem.1 hx
  rw [h j hj]
  decide
set_option maxHeartbeats 1000000 in
/-- Where the first one stands that may not be. -/
theorem index_any (a : Option Addr) (n cap : Nat) (l : List Rg) (w : World) (hl : RR w a n cap l) (hn : n ≤ 1000000) :
    Calls Tryz.prog 35 #[.slice a n cap, .func (.func 24) #[] #[]] w fun e w' => (∃ j : Int, e = .returned (.int .i64 j) ∧ decide (0 ≤ j) = badB l ∧ -1 ≤ j ∧ j ≤ 1000000) ∧ Below w.heap.size w w' := by
  have HL := hid hl
  have HN := hid hl.1
  clear hl
  go_enter Tryz.func35, Tryz.ntmps35
  go_wp2_with fail
  go_loopg [8] n (fun kx s8 wr => ∃ i : Nat, s8 = .int .i64 i ∧ i ≤ n ∧ n - i ≤ kx ∧ Hid (Below w.heap.size w wr) ∧ Hid (∀ j (hj : j < l.length), j < i → okB l[j] = true))
  case atStart => exact ⟨0, rfl, Nat.zero_le _, by omega, Below.refl _ _, fun j hj h => absurd h (Nat.not_lt_zero _)⟩
  case round =>
    obtain ⟨i, rfl, hi, hg, HB, HA⟩ := hrel
    by_cases hlt : i < n
    · have hlt' : (i : Int) < (n : Int) := by omega
      have hil : i < l.length := by have := HN.out; omega
      obtain ⟨b, off, rfl, hbl, x0, x1⟩ := (HL.out.below HB.out (Nat.le_refl _)).at hil
      cases hk : okB l[i]
      · have HBAD := hid (badB_yes hil hk)
        generalize l[i] = x at *
        obtain ⟨lo, hi2⟩ := x
        simp only at x0 x1
        have HR := hid (notright_any lo hi2 wr)
        rw [hk] at HR
        clear hk
        go_wp2_with fail
        refine HR.out.mono ?_
        rintro e w2 ⟨rfl, hb⟩
        have HB2 := hid (HB.out.trans (hb.mono HB.out.size))
        clear hb
        go_wp2_with fail
        go_ret
        exact ⟨⟨i, rfl, by rw [HBAD.out]; exact decide_eq_true (by omega), by omega, by omega⟩, HB2.out⟩
      · have HA2 := hid (show ∀ j (hj : j < l.length), j < i + 1 → okB l[j] = true from fun j hj h => by
          rcases Nat.lt_or_ge j i with h2 | h2
          · exact HA.out j hj h2
          · obtain rfl : j = i := by omega
            exact hk)
        generalize l[i] = x at *
        obtain ⟨lo, hi2⟩ := x
        simp only at x0 x1
        have HR := hid (notright_any lo hi2 wr)
        rw [hk] at HR
        clear hk
        go_wp2_with fail
        refine HR.out.mono ?_
        rintro e w2 ⟨rfl, hb⟩
        have HB2 := hid (HB.out.trans (hb.mono HB.out.size))
        clear hb
        go_wp2_with fail
        go_roundg (n - (i + 1))
        case measure => omega
        case rel => exact ⟨i + 1, by go_num, by omega, Nat.le_refl _, HB2, HA2⟩
    · have hlt' : ¬ (i : Int) < (n : Int) := by omega
      have HF := hid (badB_none fun j hj => HA.out j hj (by have := HN.out; omega))
      clear hi hg hlt
      go_wp2_with fail
      go_ret
      exact ⟨⟨-1, rfl, by rw [HF.out]; rfl, by omega, by omega⟩, HB.out⟩
theorem contains_any (a : Option Addr) (n cap : Nat) (l : List Rg) (w : World) (hl : RR w a n cap l) (hn : n ≤ 1000000) :
    Calls Tryz.prog 23 #[.slice a n cap, .func (.func 24) #[] #[]] w fun e w' => e = .returned (.bool (badB l)) ∧ Below w.heap.size w w' := by
  have H := hid (index_any a n cap l w hl hn)
  clear hl
  go_enter Tryz.func23, Tryz.ntmps23
  go_wp2_with fail
  refine H.out.mono ?_
  rintro e w2 ⟨⟨j, rfl, hj, _, _⟩, hb⟩
  have HB := hid hb
  have HJ := hid hj
  clear hb hj
  go_wp2_with fail
  go_ret
  exact ⟨ret_bool HJ.out, HB.out⟩
/-- What Make answers: a list and an error's number. -/
def makeR (l : List Rg) : List Rg × Int := if 1000 < l.length then ([], 3) else if badB l = true then ([], 1) else (gathR l [] 0, 0)
theorem makeR_of {l k : List Rg} (h1 : ¬ 1000 < l.length) (h2 : ∀ x ∈ l, okR x) (hp : k.Perm l) (hs : k.Pairwise (fun x y => x.1 ≤ y.1)) : mergeR k = gathR l [] 0 := by
  have hk : ∀ x ∈ k, okR x := fun x hx => h2 x (hp.mem_iff.1 hx)
  obtain ⟨a1, a2⟩ := mergeR_law hk hs
  obtain ⟨b1, b2⟩ := gath_or (a := l) (b := []) h2 (fun x hx => by cases hx)
  refine right_unique a1 b1 fun r => ?_
  rw [a2, b2]
  constructor
  · rintro ⟨x, hx, h⟩; exact .inl ⟨x, hp.mem_iff.1 hx, h⟩
  · rintro (⟨x, hx, h⟩ | h)
    · exact ⟨x, hp.mem_iff.2 hx, h⟩
    · exact absurd h (memR_nil r)
/-- A pair of a slice of ranges and an error's number. -/
def RetRE (w : World) (e : Ending) (w' : World) (l : List Rg) (z : Int) : Prop := ∃ a n c, e = .returned (.tuple #[.slice a n c, .int .i64 z]) ∧ RR w' a n c l ∧ Below w.heap.size w w'
theorem make_any (a : Option Addr) (n cap : Nat) (l : List Rg) (w : World) (hl : RR w a n cap l) (hf : Flat a) (hn : n ≤ 900000) :
    Calls Tryz.prog 12 #[.slice a n cap] w fun e w' => RetRE w e w' (makeR l).1 (makeR l).2 := by
  have hnl := hl.1
  have HL := hid hl
  by_cases h1 : 1000 < l.length
  · have HM := hid (show makeR l = ([], 3) from if_pos h1)
    have h1' : (1000 : Int) < (n : Int) := by omega
    clear hl hnl h1
    go_enter Tryz.func12, Tryz.ntmps12
    go_wp2_with fail
    go_ret2
    rw [HM.out]
    exact ⟨_, _, _, rfl, RR.nil _, Below.refl _ _⟩
  · have h1' : ¬ (1000 : Int) < (n : Int) := by omega
    cases hb : badB l
    · have HM := hid (show makeR l = (gathR l [] 0, 0) by unfold makeR; rw [if_neg h1, if_neg (by rw [hb]; decide)])
      have HOK := hid (badB_no hb)
      have HC := hid (contains_any a n cap l w hl (by omega))
      rw [hb] at HC
      have H1 := hid h1
      clear hl hnl h1 hb
      go_enter Tryz.func12, Tryz.ntmps12
      go_wp2_with fail
      refine HC.out.mono ?_
      rintro e w2 ⟨rfl, hb⟩
      have HB := hid hb
      clear hb
      go_wp2_with fail
      refine (merge_any a n cap l w2 (HL.out.below HB.out (Nat.le_refl _)) hf hn HOK.out).mono ?_
      rintro e w3 ⟨k, hp, hs, A, m, c, rfl, hr, hb⟩
      have HE := hid (makeR_of H1.out HOK.out hp hs)
      have HR := hid hr
      have HB3 := hid (HB.out.trans (hb.mono HB.out.size))
      clear hp hs hr hb
      go_wp2_with fail
      go_ret2
      rw [HM.out]
      refine ⟨_, _, _, rfl, ?_, HB3.out⟩
      show RR _ _ _ _ (gathR l [] 0)
      rw [← HE.out]
      exact HR.out
    · have HM := hid (show makeR l = ([], 1) by unfold makeR; rw [if_neg h1, if_pos hb])
      have HC := hid (contains_any a n cap l w hl (by omega))
      rw [hb] at HC
      clear hl hnl h1 hb
      go_enter Tryz.func12, Tryz.ntmps12
      go_wp2_with fail
      refine HC.out.mono ?_
      rintro e w2 ⟨rfl, hb⟩
      have HB := hid hb
      clear hb
      go_wp2_with fail
      go_ret2
      rw [HM.out]
      exact ⟨_, _, _, rfl, RR.nil _, HB.out⟩
end Go.Proofs.YtbkjanlkklmleaaGreatDoor
