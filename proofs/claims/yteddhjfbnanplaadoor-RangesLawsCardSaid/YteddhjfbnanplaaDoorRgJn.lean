/- Chapter 02: what the laws of two lists want. -/
import Derived.Test.YteddhjfbnanplaaDoorRgAw
namespace Go.Proofs.YteddhjfbnanplaaDoor
open Go.RowKit
open Go.Lib (hid)
set_option linter.unusedVariables false
set_option maxRecDepth 100000

theorem rrs_two {w : World} {q : Nat} {t : TypeId} {A1 A2 : Option Addr} {n1 c1 n2 c2 : Nat} {l1 l2 : List Rg} (h : Blk w q t #[.slice A1 n1 c1, .slice A2 n2 c2]) (h1 : RR w A1 n1 c1 l1) (h2 : RR w A2 n2 c2 l2) (i1 : In32 l1) (i2 : In32 l2) (b1 : n1 ≤ 1000000) (b2 : n2 ≤ 1000000) :
    RRs w (some ⟨q, 0, none⟩) 2 2 [l1, l2] := by
  refine ⟨rfl, Nat.le_refl _, by decide, fun _ => ⟨q, 0, rfl, h.lt, fun j hj => ?_⟩⟩
  have hj2 : j < 2 := hj
  rw [Nat.zero_add, h.cell]
  rcases j with _ | _ | j
  · exact ⟨_, _, _, rfl, h1, i1, b1⟩
  · exact ⟨_, _, _, rfl, h2, i2, b2⟩
  · omega
theorem rrs_one {w : World} {q : Nat} {t : TypeId} {A1 : Option Addr} {n1 c1 : Nat} {l1 : List Rg} (h : Blk w q t #[.slice A1 n1 c1]) (h1 : RR w A1 n1 c1 l1) (i1 : In32 l1) (b1 : n1 ≤ 1000000) :
    RRs w (some ⟨q, 0, none⟩) 1 1 [l1] := by
  refine ⟨rfl, Nat.le_refl _, by decide, fun _ => ⟨q, 0, rfl, h.lt, fun j hj => ?_⟩⟩
  have hj2 : j < 1 := hj
  rw [Nat.zero_add, h.cell]
  rcases j with _ | j
  · exact ⟨_, _, _, rfl, h1, i1, b1⟩
  · omega
theorem u_two {u l k : List Rg} (hu : rightR u) (hm : ∀ r, memR u r ↔ ∃ x ∈ [l, k], memR (knownL x) r) : u = gathR (knownL l) (knownL k) 0 := by
  obtain ⟨g1, g2⟩ := gath_or (right_ok (knownL_right l)) (right_ok (knownL_right k))
  refine right_unique hu g1 fun r => (hm r).trans (Iff.trans ?_ (g2 r).symm)
  simp
theorem cut_is {l k : List Rg} (hl : rightR l) (hk : rightR k) : cutR l k = gathR l k 1 := by
  obtain ⟨c1, c2⟩ := cutR_law hl hk
  obtain ⟨g1, g2⟩ := gath_and (right_ok hl) (right_ok hk)
  exact right_unique c1 g1 fun r => (c2 r).trans (g2 r).symm
theorem minus_law {l k : List Rg} (hl : rightR l) (hk : rightR k) : rightR (cutR l (notR k)) ∧ ∀ r, memR (cutR l (notR k)) r ↔ memR l r ∧ ¬ memR k r := by
  obtain ⟨n1, n2⟩ := notR_law hk
  obtain ⟨c1, c2⟩ := cutR_law hl n1
  refine ⟨c1, fun r => (c2 r).trans ?_⟩
  rw [n2]
  exact ⟨fun h => ⟨h.1, h.2.2.2⟩, fun h => ⟨h.1, (mem_num (right_ok hl) h.1).1, (mem_num (right_ok hl) h.1).2, h.2⟩⟩
theorem minus_is {l k : List Rg} (hl : rightR l) (hk : rightR k) : cutR l (notR k) = gathR l k 2 := by
  obtain ⟨c1, c2⟩ := minus_law hl hk
  obtain ⟨g1, g2⟩ := gath_minus (right_ok hl) (right_ok hk)
  exact right_unique c1 g1 fun r => (c2 r).trans (g2 r).symm
theorem not_is {l : List Rg} (hl : rightR l) : notR l = gathR l [] 3 := by
  obtain ⟨c1, c2⟩ := notR_law hl
  obtain ⟨g1, g2⟩ := gath_not (a := l) (b := []) (right_ok hl) (fun x hx => by cases hx)
  exact right_unique c1 g1 fun r => (c2 r).trans (g2 r).symm
theorem same_self (l : List Rg) : sameB l l = true := decide_eq_true rfl
end Go.Proofs.YteddhjfbnanplaaDoor
