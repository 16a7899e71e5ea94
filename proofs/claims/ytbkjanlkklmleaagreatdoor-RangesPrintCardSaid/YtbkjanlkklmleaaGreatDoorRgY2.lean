/- Chapter 02: Cut, Minus, Same: the walks. -/
import Derived.Test.YtbkjanlkklmleaaGreatDoorRgY
import Derived.BigRegion
namespace Go.Proofs.YtbkjanlkklmleaaGreatDoor
open Go.RowKit
open Go.Lib (hid)
set_option linter.unusedVariables false
set_option maxRecDepth 100000

def offRg (cap off : Nat) : Nat := if cap = 1 then off else off + 2
theorem rg_tail (b off n cap : Nat) (hn : 1 ≤ n) (hcap : n ≤ cap) (W : World) : (Instr.slice 27 (.slice (some ⟨b, off, none⟩) n cap) (some (.int .i64 1)) none none).run Tryz.prog W = .ok (.slice (some ⟨b, offRg cap off, none⟩) (n - 1) (cap - 1)) W := by
  rw [run_slice_l (P := Tryz.prog) W 27 _ n cap rfl .i64 1 (by omega) (by omega)]
  have hs : (sizeOf (Tryz.prog.elem 27)).run Tryz.prog W = .ok 2 W := by go_simp
  rw [hs]
  unfold offRg
  by_cases hc : cap = 1
  · subst hc
    simp [Result.andThen, sliced]
  · simp [Result.andThen, sliced, hc, Addr.add]
theorem RR.tail {w : World} {b off n cap : Nat} {x : Rg} {l : List Rg} (h : RR w (some ⟨b, off, none⟩) n cap (x :: l)) : RR w (some ⟨b, offRg cap off, none⟩) (n - 1) (cap - 1) l := by
  have h1 := h.1
  rw [List.length_cons] at h1
  refine ⟨by omega, by have := h.2.1; omega, by have := h.2.2.1; omega, fun hn => ?_⟩
  obtain ⟨b', off', e, hbl, hz⟩ := h.2.2.2 (by omega)
  obtain ⟨rfl, rfl⟩ : b = b' ∧ off = off' := by injection e with e; injection e with e1 e2 _; exact ⟨e1, e2⟩
  refine ⟨b, off + 2, by unfold offRg; rw [if_neg (by have := h.2.1; omega)], hbl, fun j hj => ?_⟩
  have := hz (j + 1) (by simpa using hj)
  rw [show off + (j + 1) * 2 = off + 2 + j * 2 by omega] at this
  simpa using this
end Go.Proofs.YtbkjanlkklmleaaGreatDoor
