/- Chapter 02: Make, Same: the walks. -/
import Derived.Test.YtbkjanlkklmleaaRgV
import Derived.Test.YtbkjanlkklmleaaRgE
namespace Go.Proofs.Ytbkjanlkklmleaa
open Go.RowKit
open Go.Lib (hid)
set_option linter.unusedVariables false
set_option maxRecDepth 100000

/-- Is one of them none that may be. -/
def badB (l : List Rg) : Bool := l.any fun x => !okB x
def firstBad (l : List Rg) : Int := if badB l = true then ((l.findIdx fun x => !okB x : Nat) : Int) else -1
theorem badB_no {l : List Rg} (h : badB l = false) : ∀ x ∈ l, okR x := fun x hx => by
  unfold badB at h
  rw [List.any_eq_false] at h
  have := h x hx
  unfold okB at this
  simpa using this
theorem badB_yes {l : List Rg} {i : Nat} (h : i < l.length) (hb : okB l[i] = false) : badB l = true := by
  unfold badB
  rw [List.any_eq_true]
  exact ⟨_, List.getElem_mem h, by rw [hb]; rfl⟩
theorem badB_none {l : List Rg} (h : ∀ j (hj : j < l.length), okB l[j] = true) : badB l = false := by
  unfold badB
  rw [List.any_eq_false]
  intro x hx
  obtain ⟨j, hj, rfl⟩ := List.mem_iff_getElem.1 hx
  rw [h j hj]
  decide
/-- What Make answers: a list and an error's number. -/
def makeR (l : List Rg) : List Rg × Int := if 1000 < l.length then ([], 3) else if badB l = true then ([], 1) else (gathR l [] 0, 0)
theorem makeR_of {l k : List Rg} (h1 : ¬ 1000 < l.length) (h2 : ∀ x ∈ l, okR x) (hp : k.Perm l) (hs : k.Pairwise (fun x y => x.1 ≤ y.1)) : mergeR k = gathR l [] 0 := by
  have hk : ∀ x ∈ k, okR x := fun x hx => h2 x (hp.mem_iff.1 hx)
  obtain ⟨a1, a2⟩ := mergeR_law hk hs
  obtain ⟨b1, b2⟩ := gath_or (a := l) (b := []) h2 (fun x hx => by cases hx)
  refine right_unique a1 b1 fun r => ?_
  rw [a2, b2]
  constructor
  · rintro ⟨x, hx, h⟩; exact .inl ⟨x, hp.mem_iff.1 hx, h⟩
  · rintro (⟨x, hx, h⟩ | h)
    · exact ⟨x, hp.mem_iff.2 hx, h⟩
    · exact absurd h (memR_nil r)
/-- A pair of a slice of ranges and an error's number. -/
def RetRE (w : World) (e : Ending) (w' : World) (l : List Rg) (z : Int) : Prop := ∃ a n c, e = .returned (.tuple #[.slice a n c, .int .i64 z]) ∧ RR w' a n c l ∧ Below w.heap.size w w'
end Go.Proofs.Ytbkjanlkklmleaa
