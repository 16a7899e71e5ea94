/- Chapter 20: rows of answers. -/
import Derived.Test.YtpnbkecchfhimaaGreatDoorFdM4
namespace Go.Proofs.YtpnbkecchfhimaaGreatDoor
open Go.RowKit Go.Shelf
open Go.Lib (hid)
set_option linter.unusedVariables false
set_option linter.unusedSimpArgs false
set_option maxRecDepth 100000

theorem TR.of_own {n₀ : Nat} {W : World} {v : Value} {n : Nat} {l : List Tk} (h : W.ownsRow n₀ 29 6 v n (tkCells l)) : ∃ A cap, v = .slice A n cap ∧ TR W A n l := by
  have hlen : n = l.length := by
    have h1 := h.1
    rw [tkCells_len] at h1
    omega
  subst hlen
  obtain ⟨A, cap, rfl⟩ := owns_slice h
  refine ⟨A, cap, rfl, rfl, fun hn => ?_⟩
  obtain ⟨k, hk⟩ : ∃ k, l.length = k + 1 := ⟨l.length - 1, by omega⟩
  have h' := h
  rw [hk] at h'
  obtain ⟨g, cap', e⟩ := ownsRow_succ (k := k) h'
  injection e with e1 _ e3
  subst e1
  refine ⟨g, rfl, (h.lt g rfl).2, fun j hj f hf => ?_⟩
  rw [← tkCells_get l j hj f hf]
  exact h.cellAt (j * 6 + f) (by omega)
theorem setN_take {s s' : ByteArray} (h : Pre s s') : (toks s').take (setN s) = (toks s).take (setN s) := (toks_grow h _ 0 (Nat.le_refl _) (setN s) (setN_set s)).1
end Go.Proofs.YtpnbkecchfhimaaGreatDoor
