/- Bytes cut into scalars: the plain list of pieces. No Go in sight. -/
import Derived.Test.YtbkjanlkklmleaaDoorScal
namespace Go.Proofs.YtbkjanlkklmleaaDoor

/-- A scalar that was read: where, its size, the scalar, whether it is whole. -/
structure Pc where
  at_ : Nat
  size : Nat
  r : Int
  whole : Bool

def pcsGo : Nat → Nat → List Int → List Pc
  | 0, _, _ => []
  | f + 1, i, l => match l with
    | [] => []
    | c :: t => ⟨i, (readF (c :: t)).2.1, (readF (c :: t)).1, (readF (c :: t)).2.2⟩ :: pcsGo f (i + (readF (c :: t)).2.1) ((c :: t).drop (readF (c :: t)).2.1)

/-- All pieces of bytes. -/
def pcs (zs : List Int) : List Pc := pcsGo zs.length 0 zs

theorem pcsGo_nil (f i : Nat) : pcsGo f i [] = [] := by cases f <;> rfl

theorem pcsGo_fuel : ∀ (f g i : Nat) (l : List Int), l.length ≤ f → l.length ≤ g → pcsGo f i l = pcsGo g i l
  | 0, g, i, [], _, _ => by rw [pcsGo_nil, pcsGo_nil]
  | f + 1, g, i, [], _, _ => by rw [pcsGo_nil, pcsGo_nil]
  | f + 1, 0, i, c :: t, _, h => by simp at h
  | f + 1, g + 1, i, c :: t, h1, h2 => by
    have := readF_size c t
    show _ :: _ = _ :: _
    rw [pcsGo_fuel f g _ _ (by simp at h1 ⊢; omega) (by simp at h2 ⊢; omega)]

/-- From a place on. -/
def pcsFrom (zs : List Int) (i : Nat) : List Pc := pcsGo (zs.length - i) i (zs.drop i)

theorem pcsFrom_zero (zs : List Int) : pcsFrom zs 0 = pcs zs := rfl
theorem pcsFrom_end {zs : List Int} {i : Nat} (h : zs.length ≤ i) : pcsFrom zs i = [] := by
  unfold pcsFrom
  rw [List.drop_eq_nil_of_le h, pcsGo_nil]
theorem pcsFrom_step {zs : List Int} {i : Nat} (h : i < zs.length) :
    pcsFrom zs i = ⟨i, (readF (zs.drop i)).2.1, (readF (zs.drop i)).1, (readF (zs.drop i)).2.2⟩ :: pcsFrom zs (i + (readF (zs.drop i)).2.1) := by
  unfold pcsFrom
  have hd : zs.drop i ≠ [] := by simp; omega
  obtain ⟨c, t, e⟩ := List.exists_cons_of_ne_nil hd
  have hl : (c :: t).length = zs.length - i := by rw [← e]; simp
  have hs := readF_size c t
  rw [← List.drop_drop, e, ← hl]
  have hl2 : t.length + 1 = zs.length - i := by simpa using hl
  show _ :: _ = _ :: _
  congr 1
  refine pcsGo_fuel _ _ _ _ ?_ ?_
  · simp; omega
  · simp; omega

theorem readF_drop_size {zs : List Int} {i : Nat} (h : i < zs.length) : 1 ≤ (readF (zs.drop i)).2.1 ∧ i + (readF (zs.drop i)).2.1 ≤ zs.length := by
  have hd : zs.drop i ≠ [] := by simp; omega
  obtain ⟨c, t, e⟩ := List.exists_cons_of_ne_nil hd
  have hl : t.length + 1 = zs.length - i := by
    have : (zs.drop i).length = zs.length - i := by simp
    rw [e] at this
    simpa using this
  have hs := readF_size c t
  rw [e]
  omega

theorem pcsFrom_length : ∀ (n : Nat) (zs : List Int) (i : Nat), zs.length - i = n → (pcsFrom zs i).length ≤ zs.length - i
  | n, zs, i, hn => by
    by_cases h : i < zs.length
    · rw [pcsFrom_step h]
      have hs := readF_drop_size h
      have := pcsFrom_length (zs.length - (i + (readF (zs.drop i)).2.1)) zs (i + (readF (zs.drop i)).2.1) rfl
      simp only [List.length_cons]
      omega
    · rw [pcsFrom_end (by omega)]; simp
  termination_by n => n
theorem pcs_length (zs : List Int) : (pcs zs).length ≤ zs.length := by
  have := pcsFrom_length _ zs 0 rfl
  rw [pcsFrom_zero] at this
  omega

/-- Each piece is within the bytes. -/
theorem pcsFrom_mem : ∀ (n : Nat) (zs : List Int) (i : Nat), zs.length - i = n → ∀ p ∈ pcsFrom zs i, i ≤ p.at_ ∧ 1 ≤ p.size ∧ p.at_ + p.size ≤ zs.length
  | n, zs, i, hn, p, hp => by
    by_cases h : i < zs.length
    · rw [pcsFrom_step h] at hp
      have hs := readF_drop_size h
      rcases List.mem_cons.1 hp with rfl | hp
      · exact ⟨Nat.le_refl _, hs.1, hs.2⟩
      · have := pcsFrom_mem (zs.length - (i + (readF (zs.drop i)).2.1)) zs (i + (readF (zs.drop i)).2.1) rfl p hp
        omega
    · rw [pcsFrom_end (by omega)] at hp
      cases hp
  termination_by n => n
theorem pcs_mem {zs : List Int} {p : Pc} (hp : p ∈ pcs zs) : 1 ≤ p.size ∧ p.at_ + p.size ≤ zs.length := by
  have := pcsFrom_mem _ zs 0 rfl p hp
  omega
end Go.Proofs.YtbkjanlkklmleaaDoor
