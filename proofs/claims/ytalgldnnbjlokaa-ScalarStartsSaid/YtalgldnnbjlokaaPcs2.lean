/- Pieces: where one stands among them. No Go in sight. -/
import Derived.Test.YtalgldnnbjlokaaPcs
namespace Go.Proofs.Ytalgldnnbjlokaa

theorem pcs_split : ∀ (n : Nat) (zs : List Int) (j : Nat) (A : List Pc) (p : Pc) (B : List Pc), zs.length - j = n → pcsFrom zs j = A ++ p :: B →
    B = pcsFrom zs (p.at_ + p.size) ∧ p = ⟨p.at_, (readF (zs.drop p.at_)).2.1, (readF (zs.drop p.at_)).1, (readF (zs.drop p.at_)).2.2⟩ ∧ p.at_ < zs.length ∧ j ≤ p.at_ ∧ (A = [] → p.at_ = j) ∧ (∀ y ∈ A, y.at_ + y.size ≤ p.at_) ∧ (A ≠ [] → ∃ y ∈ A, y.at_ + y.size = p.at_)
  | n, zs, j, A, p, B, hn, h => by
    by_cases hj : j < zs.length
    · have hs := readF_drop_size hj
      rw [pcsFrom_step hj] at h
      cases A with
      | nil =>
        simp only [List.nil_append, List.cons.injEq] at h
        obtain ⟨rfl, rfl⟩ := h
        exact ⟨rfl, rfl, hj, Nat.le_refl _, fun _ => rfl, (fun y hy => by cases hy), fun h => absurd rfl h⟩
      | cons y A =>
        simp only [List.cons_append, List.cons.injEq] at h
        obtain ⟨rfl, h⟩ := h
        obtain ⟨g1, g2, g3, g4, g5, g6, g7⟩ := pcs_split (zs.length - (j + (readF (zs.drop j)).2.1)) zs _ A p B rfl h
        refine ⟨g1, g2, g3, by omega, (fun h => by cases h), fun y hy => ?_, fun _ => ?_⟩
        · rcases List.mem_cons.1 hy with rfl | hy
          · exact g4
          · exact g6 y hy
        · by_cases hA : A = []
          · exact ⟨_, List.mem_cons_self, (g5 hA).symm⟩
          · obtain ⟨y, hy, e⟩ := g7 hA
            exact ⟨y, List.mem_cons_of_mem _ hy, e⟩
    · rw [pcsFrom_end (by omega)] at h
      simp at h
  termination_by n => n

/-- A piece with those ahead of it and behind it. -/
theorem pcs_at {zs : List Int} {A B : List Pc} {p : Pc} (h : pcs zs = A ++ p :: B) :
    B = pcsFrom zs (p.at_ + p.size) ∧ p = ⟨p.at_, (readF (zs.drop p.at_)).2.1, (readF (zs.drop p.at_)).1, (readF (zs.drop p.at_)).2.2⟩ ∧ p.at_ < zs.length ∧ (A = [] → p.at_ = 0) ∧ (∀ y ∈ A, y.at_ + y.size ≤ p.at_) ∧ (A ≠ [] → ∃ y ∈ A, y.at_ + y.size = p.at_) := by
  obtain ⟨g1, g2, g3, _, g5, g6, g7⟩ := pcs_split _ zs 0 A p B rfl h
  exact ⟨g1, g2, g3, g5, g6, g7⟩

/-- Those behind a piece begin no earlier than it ends. -/
theorem pcs_behind {zs : List Int} {A B : List Pc} {p : Pc} (h : pcs zs = A ++ p :: B) : ∀ y ∈ B, p.at_ + p.size ≤ y.at_ := by
  obtain ⟨g1, _⟩ := pcs_at h
  intro y hy
  rw [g1] at hy
  exact (pcsFrom_mem _ zs _ rfl y hy).1

/-- Bytes are all in pieces. -/
theorem pcs_cover : ∀ (n : Nat) (zs : List Int) (j i : Nat), zs.length - j = n → j ≤ i → i < zs.length → ∃ p ∈ pcsFrom zs j, i < p.at_ + p.size
  | n, zs, j, i, hn, h1, h2 => by
    have hj : j < zs.length := by omega
    have hs := readF_drop_size hj
    rw [pcsFrom_step hj]
    by_cases h : i < j + (readF (zs.drop j)).2.1
    · exact ⟨_, List.mem_cons_self, h⟩
    · obtain ⟨p, hp, hi⟩ := pcs_cover (zs.length - (j + (readF (zs.drop j)).2.1)) zs (j + (readF (zs.drop j)).2.1) i rfl (by omega) h2
      exact ⟨p, List.mem_cons_of_mem _ hp, hi⟩
  termination_by n => n

/-- The piece that a byte is in: the first that ends behind it. -/
structure InPiece (zs : List Int) (i : Nat) (A : List Pc) (p : Pc) (B : List Pc) : Prop where
  eq : pcs zs = A ++ p :: B
  ahead : ∀ y ∈ A, y.at_ + y.size ≤ i
  lt : i < p.at_ + p.size

theorem InPiece.le {zs : List Int} {i : Nat} {A B : List Pc} {p : Pc} (h : InPiece zs i A p B) : p.at_ ≤ i := by
  obtain ⟨_, _, _, g5, g6, g7⟩ := pcs_at h.eq
  by_cases hA : A = []
  · have := g5 hA; omega
  · obtain ⟨y, hy, e⟩ := g7 hA
    have := h.ahead y hy
    omega
end Go.Proofs.Ytalgldnnbjlokaa
