/- A slice of bytes that came in, as the contracts of chapter 01 want it. -/
import Derived.Test.YtalgldnnbjlokaaOpen
import Derived.Test.YtalgldnnbjlokaaRead
namespace Go.Proofs.Ytalgldnnbjlokaa
open Go.RowKit

theorem sb_of {w : World} {a : Option Addr} {len cap : Nat} {zs : List Int} (h : IsRow .u8 w a len cap zs) : ∃ ys : List Int, len = ys.length ∧ SB w a cap ys := by
  rcases h with ⟨rfl, rfl, rfl, rfl⟩ | ⟨x, rfl, hl, hm, hz, hcell, hwz⟩
  · exact ⟨[], rfl, Nat.zero_le _, by decide, fun x hx => by simp at hx, .inl rfl⟩
  · have hlen : (zs.take len).length = len := by rw [List.length_take]; omega
    refine ⟨zs.take len, hlen.symm, by omega, by unfold maxLen at hm; omega, ?_, ?_⟩
    · intro y hy
      have := bounds_u8 (hwz y (List.mem_of_mem_take hy))
      omega
    · by_cases h0 : len = 0
      · subst h0; exact .inl (by simp)
      · obtain ⟨b, off, spot⟩ := x
        have hc := hcell 0 (by omega)
        have hspot : spot = none := by simpa [Addr.add] using World.cell?_spot hc
        subst hspot
        refine .inr ⟨b, off, rfl, World.block_lt_of_cell? _ _ hc, ?_⟩
        intro i hi
        rw [hlen] at hi
        have := hcell i (by omega)
        rw [show (Addr.add ⟨b, off, none⟩ i) = ⟨b, off + i, none⟩ by unfold Addr.add; split <;> simp_all] at this
        rw [this]
        simp [hi]
end Go.Proofs.Ytalgldnnbjlokaa
