/- Chapter 01: a scalar's bytes, read again: the plain law. -/
import Derived.Test.YtbkjanlkklmleaaDoorScA
import Derived.Test.YtbkjanlkklmleaaDoorAll
import Derived.Test.YtbkjanlkklmleaaDoorValid
namespace Go.Proofs.YtbkjanlkklmleaaDoor
open Go.RowKit
open Go.Lib (hid)
set_option linter.unusedVariables false
set_option maxRecDepth 100000

/-- What is put for a number. -/
def putQ (r : Int) : Int := if rightR r then r else 65533
theorem putQ_right (r : Int) : rightR (putQ r) = true := by
  unfold putQ
  cases h : rightR r
  · rw [if_neg (by decide)]; decide
  · rw [if_pos rfl]; exact h
theorem putI_q (r : Int) : putI (putQ r) = putI r := by
  have h := putQ_right r
  show putI0 (if rightR (putQ r) = true then putQ r else 65533) = putI0 (putQ r)
  rw [if_pos h]
theorem put_pcs (r : Int) : pcs (putF r) = [⟨0, (putI r).length, putQ r, true⟩] := by
  have hl := (putI_len r).2
  rw [putF_putI, ← pcsFrom_zero, pcsFrom_step (by omega), List.drop_zero]
  have hr := readF_put (putQ_right r) []
  rw [List.append_nil, putI_q] at hr
  rw [hr, Nat.zero_add, pcsFrom_end (Nat.le_refl _)]
theorem put_all (r : Int) : (pcs (putF r)).map (·.r) = [putQ r] := by rw [put_pcs]; rfl
theorem put_valid (r : Int) : validF (putF r) = true := by unfold validF; rw [put_pcs]; rfl
theorem putFX_mem (r : Int) : ∀ y ∈ putF r, 0 ≤ y ∧ y ≤ 255 := by
  intro y hy
  rw [putF_putI] at hy
  exact (putI_mem r y hy).1
theorem conv_newX {B : Nat} {w : World} {v : Value} {zs : List Int} (h : NewBytes B w v zs) (hz : ∀ y ∈ zs, 0 ≤ y ∧ y ≤ 255) (W : World) (hb : Below w.heap.size w W) : (convert 28 9 v).run Tryd.prog W = .ok (.string (ofInts zs)) W := by
  obtain ⟨b, _, rfl, hh⟩ := h
  have hbl : b < w.heap.size := by
    rcases Nat.lt_or_ge b w.heap.size with h | h
    · exact h
    · rw [Array.getElem?_eq_none h] at hh; cases hh
  have hby : Lib.Bytes W b 0 (ofInts zs) := by
    apply bytes_of_byt
    intro i hi
    have hi' : i < zs.length := by rw [ofInts_size] at hi; exact hi
    rw [Nat.zero_add, hb.cell (p := ⟨b, i, none⟩) hbl, ofInts_byt zs hz i hi']
    simp [World.cell?, hh, List.getD_eq_getElem?_getD, hi']
  have := Hx.conv_headX hby zs.length zs.length (by rw [ofInts_size]; exact Nat.le_refl _)
  rw [this]
  congr 2
  rw [← ofInts_size zs]
  exact Hx.ext_allX _
theorem conv_newB {B : Nat} {w : World} {v : Value} {s : ByteArray} (h : NewB B w v s) (h0 : 0 < s.size) : (convert 28 9 v).run Tryd.prog w = .ok (.string s) w := by
  obtain ⟨rfl, h1, h2, h3, h4⟩ := h
  obtain ⟨b, off, e, hb, hz⟩ := h4 h0
  injection e with e
  injection e with e1 e2 _
  subst e1 e2
  have := Hx.conv_headX hz s.size s.size (Nat.le_refl _)
  rw [this, Hx.ext_allX]
theorem sb_new {B : Nat} {w : World} {v : Value} {zs : List Int} (h : NewBytes B w v zs) (hz : ∀ y ∈ zs, 0 ≤ y ∧ y ≤ 255) (hl : zs.length ≤ 1000) : ∃ b, v = .slice (some ⟨b, 0, none⟩) zs.length zs.length ∧ SB w (some ⟨b, 0, none⟩) zs.length zs := by
  obtain ⟨b, _, rfl, hh⟩ := h
  have hbl : b < w.heap.size := by
    rcases Nat.lt_or_ge b w.heap.size with h | h
    · exact h
    · rw [Array.getElem?_eq_none h] at hh; cases hh
  refine ⟨b, rfl, Nat.le_refl _, by omega, hz, .inr ⟨b, 0, rfl, hbl, ?_⟩⟩
  intro i hi
  simp [World.cell?, hh, List.getD_eq_getElem?_getD, hi]
theorem made_one {n₀ : Nat} {W : World} {v : Value} {a : Int} (h : Made32 n₀ W v [a]) : ∃ g cap, v = .slice (some ⟨g, 0, none⟩) 1 cap ∧ g < W.heap.size ∧ W.cell? ⟨g, 0, none⟩ = some (.int .i32 a) := by
  obtain ⟨hr, _⟩ := h
  obtain ⟨g, cap, rfl⟩ := ownsRow_succ (k := 0) hr
  exact ⟨g, cap, rfl, (hr.lt g rfl).2, by rw [hr.cellAt 0 (by simp)]; rfl⟩
end Go.Proofs.YtbkjanlkklmleaaDoor
