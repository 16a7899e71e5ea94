/- Chapter 02: the document's gather: the walk. -/
import Derived.Test.YtbkjanlkklmleaaGreatDoorRgG
import Derived.Deep.CutBlock
namespace Go.Proofs.YtbkjanlkklmleaaGreatDoor
open Go.RowKit
open Go.Lib (hid)
set_option linter.unusedVariables false
set_option maxRecDepth 100000

def wantB (how : Int) (x y : Bool) : Bool := if how = 1 then x && y else if how = 2 then x && !y else if how = 3 then !x else x || y
def wantR (a b : List Rg) (how : Int) (r : Int) : Bool := wantB how (inB a r) (inB b r)
def gathR (a b : List Rg) (how : Int) : List Rg := gatL (wantR a b how) [] (pointsR (a ++ b))
theorem RR.reads {w : World} {a : Option Addr} {n cap : Nat} {l : List Rg} (h : RR w a n cap l) : Reads w w.heap.size 2 a n (l.flatMap rgCells) := by
  refine ⟨by rw [rgCells_len, h.1], fun hn => ?_⟩
  obtain ⟨b, off, rfl, hb, hz⟩ := h.2.2.2 hn
  refine ⟨_, rfl, hb, fun j u hu => ?_⟩
  have hj : j < l.length * 2 := by
    have := (List.getElem?_eq_some_iff.1 hu).1
    rwa [rgCells_len] at this
  rw [show (Addr.add ⟨b, off, none⟩ j) = ⟨b, off + j, none⟩ by unfold Addr.add; split <;> simp_all]
  have hk : j / 2 < l.length := by omega
  obtain ⟨g0, g1⟩ := rgCells_get l (j / 2) hk
  obtain ⟨z0, z1⟩ := hz (j / 2) hk
  rcases Nat.mod_two_eq_zero_or_one j with h0 | h0
  · have e : j = j / 2 * 2 := by omega
    rw [e] at hu ⊢
    rw [← hu, g0]
    exact z0
  · have e : j = j / 2 * 2 + 1 := by omega
    rw [e] at hu ⊢
    rw [← hu, g1, ← Nat.add_assoc]
    exact z1
theorem rg_one (l : List Rg) : ∀ u ∈ l.flatMap rgCells, u.oneCell' = true := by
  intro u hu
  obtain ⟨x, _, h⟩ := List.mem_flatMap.1 hu
  simp [rgCells] at h
  rcases h with rfl | rfl <;> rfl
theorem gatL_one (W : Int → Bool) (out : List Rg) (p : Int) : gatL W out [p] = out := rfl
theorem gatL_two (W : Int → Bool) (out : List Rg) (p q : Int) (r : List Int) : gatL W out (p :: q :: r) = gatL W (gatS W out p q) (q :: r) := rfl
theorem gatS_no {W : Int → Bool} {out : List Rg} {p q : Int} (h : W p = false) : gatS W out p q = out := by unfold gatS; rw [h]; rfl
theorem gatS_nil {W : Int → Bool} {p q : Int} (h : W p = true) : gatS W [] p q = [(p, q - 1)] := by unfold gatS; rw [if_pos h]; rfl
theorem gatS_on {W : Int → Bool} {o : List Rg} {z : Rg} {p q : Int} (h : W p = true) (hz : z.2 + 1 = p) : gatS W (o ++ [z]) p q = o ++ [(z.1, q - 1)] := by
  unfold gatS
  rw [if_pos h, List.getLast?_concat]
  simp only
  rw [if_pos hz, List.dropLast_concat]
theorem gatS_new {W : Int → Bool} {o : List Rg} {z : Rg} {p q : Int} (h : W p = true) (hz : ¬ z.2 + 1 = p) : gatS W (o ++ [z]) p q = o ++ [z] ++ [(p, q - 1)] := by
  unfold gatS
  rw [if_pos h, List.getLast?_concat]
  simp only
  rw [if_neg hz]
/-- The ends so far are small. -/
def Ends (o : List Rg) : Prop := ∀ x ∈ o, -1 ≤ x.2 ∧ x.2 ≤ 1114111
theorem Ends.snoc {o : List Rg} {z : Rg} (h : Ends o) (h1 : -1 ≤ z.2) (h2 : z.2 ≤ 1114111) : Ends (o ++ [z]) := fun x hx => by
  rcases List.mem_append.1 hx with hx | hx
  · exact h x hx
  · rw [List.mem_singleton.1 hx]; exact ⟨h1, h2⟩
theorem Ends.init {o : List Rg} {z : Rg} (h : Ends (o ++ [z])) : Ends o := fun x hx => h x (List.mem_append_left _ hx)
theorem pointsR_len (l : List Rg) : (pointsR l).length ≤ 2 * l.length + 2 := by
  have h1 := insL_len 1114112 (pointsF l)
  have h2 := ptsI_len l l.length (Nat.le_refl _)
  unfold ptsI at h2
  rw [List.take_length] at h2
  unfold pointsR
  omega
theorem list_snoc {α : Type} (l : List α) : l = [] ∨ ∃ o z, l = o ++ [z] := by
  rcases List.eq_nil_or_concat l with h | ⟨o, z, h⟩
  · exact .inl h
  · exact .inr ⟨o, z, by rw [h, List.concat_eq_append]⟩

end Go.Proofs.YtbkjanlkklmleaaGreatDoor
