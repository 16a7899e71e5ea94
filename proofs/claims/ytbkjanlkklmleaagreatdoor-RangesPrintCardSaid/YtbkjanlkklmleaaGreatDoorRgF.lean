/- Chapter 02: the document's insert: the walk. (Printed by wip/gen/rgf.py.) -/
import Derived.Test.YtbkjanlkklmleaaGreatDoorRgE
namespace Go.Proofs.YtbkjanlkklmleaaGreatDoor
open Go.RowKit
open Go.Lib (hid)
set_option linter.unusedVariables false
set_option maxRecDepth 100000

/-- A row of numbers of 32 bits. -/
def RI (w : World) (a : Option Addr) (n cap : Nat) (l : List Int) : Prop :=
  n = l.length ∧ n ≤ cap ∧ cap ≤ 9223372036854775807 ∧ (0 < n → ∃ b off, a = some ⟨b, off, none⟩ ∧ b < w.heap.size ∧ ∀ j (h : j < l.length), w.cell? ⟨b, off + j, none⟩ = some (.int .i32 l[j]))
theorem RI.below {w w' : World} {a : Option Addr} {n cap B : Nat} {l : List Int} (h : RI w a n cap l) (hb : Below B w w') (hB : w.heap.size ≤ B) : RI w' a n cap l :=
  ⟨h.1, h.2.1, h.2.2.1, fun hn => by
    obtain ⟨b, off, e, hbl, hz⟩ := h.2.2.2 hn
    exact ⟨b, off, e, Nat.lt_of_lt_of_le hbl hb.size, fun j hj => (hb.cell (p := ⟨b, _, none⟩) (by show b < B; omega)).trans (hz j hj)⟩⟩
def i32s (l : List Int) : List Value := l.map (Value.int .i32)
theorem i32s_len (l : List Int) : (i32s l).length = l.length := by simp [i32s]
theorem i32s_append (l k : List Int) : i32s (l ++ k) = i32s l ++ i32s k := by simp [i32s]
theorem i32s_one (l : List Int) : ∀ u ∈ i32s l, u.oneCell' = true := by
  intro u hu
  obtain ⟨x, _, rfl⟩ := List.mem_map.1 hu
  rfl
theorem RI.of_own {W : World} {B n c : Nat} {e : TypeId} {A : Option Addr} {l : List Int} (h : W.ownsRow B e 1 (.slice A n c) n (i32s l)) : RI W A n c l := by
  have hl := h.1
  rw [i32s_len, Nat.mul_one] at hl
  obtain ⟨a, c', hv, h1, h2, hc⟩ := owns_form h
  injection hv with hA _ hcc
  subst hA hcc
  refine ⟨hl.symm, h1, by unfold maxLen at h2; omega, fun hn => ?_⟩
  obtain ⟨g, rfl, _, hg, hcell⟩ := hc hn
  refine ⟨g, 0, rfl, hg, fun j hj => ?_⟩
  rw [Nat.zero_add, hcell j (by omega)]
  simp [i32s, hj]
theorem RI.reads {w : World} {b off n cap : Nat} {l : List Int} (h : RI w (some ⟨b, off, none⟩) n cap l) (hb : b < w.heap.size) (i m : Nat) (him : i + m = n) (c : Nat) (hc : n ≤ c) : Reads w w.heap.size 1 (some ⟨b, if c = i then off else off + i, none⟩) m (i32s (l.drop i)) := by
  have hn := h.1
  refine ⟨by rw [i32s_len, List.length_drop]; omega, fun hm => ⟨_, rfl, hb, fun j u hu => ?_⟩⟩
  obtain ⟨b', off', e, _, hz⟩ := h.2.2.2 (by omega)
  injection e with e
  injection e with e1 e2 _
  subst e1 e2
  have hj : j < l.length - i := by
    have := (List.getElem?_eq_some_iff.1 hu).1
    rwa [i32s_len, List.length_drop] at this
  rw [if_neg (by omega), show (Addr.add ⟨b, off + i, none⟩ j) = ⟨b, off + i + j, none⟩ by unfold Addr.add; split <;> simp_all, Nat.add_assoc, hz (i + j) (by omega), ← hu]
  simp [i32s, List.getElem?_drop, show i + j < l.length by omega]
theorem RI.head {w : World} {b off n cap : Nat} {l : List Int} (h : RI w (some ⟨b, off, none⟩) n cap l) (hb : b < w.heap.size) (m : Nat) (hm : m ≤ n) : Reads w w.heap.size 1 (some ⟨b, off, none⟩) m (i32s (l.take m)) := by
  have hn := h.1
  refine ⟨by rw [i32s_len, List.length_take]; omega, fun hm => ⟨_, rfl, hb, fun j u hu => ?_⟩⟩
  obtain ⟨b', off', e, _, hz⟩ := h.2.2.2 (by omega)
  injection e with e
  injection e with e1 e2 _
  subst e1 e2
  have hj : j < m ∧ j < l.length := by
    have := (List.getElem?_eq_some_iff.1 hu).1
    rw [i32s_len, List.length_take] at this
    omega
  rw [show (Addr.add ⟨b, off, none⟩ j) = ⟨b, off + j, none⟩ by unfold Addr.add; split <;> simp_all, hz j hj.2, ← hu]
  simp [i32s, hj.1, hj.2]
theorem reads_i1 {w : World} {q : Nat} {t : TypeId} {x : Value} (h : Blk w q t #[x]) : Reads w w.heap.size 1 (some ⟨q, 0, none⟩) 1 [x] := by
  refine ⟨rfl, fun _ => ⟨_, rfl, h.lt, fun j u hu => ?_⟩⟩
  have e : (Addr.add ⟨q, 0, none⟩ j) = ⟨q, j, none⟩ := by unfold Addr.add; split <;> simp_all
  rw [e, h.cell j]
  simpa using hu
/-- Numbers that a call returned. -/
def RetI (w : World) (e : Ending) (w' : World) (l : List Int) : Prop := ∃ a n c, e = .returned (.slice a n c) ∧ RI w' a n c l ∧ Below w.heap.size w w'
theorem info_i32 : (Tryz.prog.info? 21).map (fun i => (i.zero, i.size, i.bytes)) = some (some (.int .i32 0), 1, 4) := by kernel_rfl
end Go.Proofs.YtbkjanlkklmleaaGreatDoor
