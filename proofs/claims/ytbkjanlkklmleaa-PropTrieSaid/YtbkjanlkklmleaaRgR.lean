/- Chapter 02: rows of ranges; whether one may be: walks. -/
import Derived.Test.YtbkjanlkklmleaaByt
import Derived.Test.YtbkjanlkklmleaaOpenRows
import Derived.Test.YtbkjanlkklmleaaRgP2
import Derived.Deep.Cut
import Derived.Deep.RegionWith
import Derived.Deep.LoopGhost
namespace Go.Proofs.Ytbkjanlkklmleaa
open Go.RowKit
open Go.Lib (hid)
set_option linter.unusedVariables false

/-- A row of ranges. -/
def RR (w : World) (a : Option Addr) (n cap : Nat) (l : List Rg) : Prop :=
  n = l.length ∧ n ≤ cap ∧ cap ≤ 9223372036854775807 ∧ (0 < n → ∃ b off, a = some ⟨b, off, none⟩ ∧ b < w.heap.size ∧ ∀ j (h : j < l.length), w.cell? ⟨b, off + j * 2, none⟩ = some (.int .i32 l[j].1) ∧ w.cell? ⟨b, off + j * 2 + 1, none⟩ = some (.int .i32 l[j].2))
theorem RR.below {w w' : World} {a : Option Addr} {n cap B : Nat} {l : List Rg} (h : RR w a n cap l) (hb : Below B w w') (hB : w.heap.size ≤ B) : RR w' a n cap l :=
  ⟨h.1, h.2.1, h.2.2.1, fun hn => by
    obtain ⟨b, off, e, hbl, hz⟩ := h.2.2.2 hn
    exact ⟨b, off, e, Nat.lt_of_lt_of_le hbl hb.size, fun j hj => ⟨(hb.cell (p := ⟨b, _, none⟩) (by show b < B; omega)).trans (hz j hj).1, (hb.cell (p := ⟨b, _, none⟩) (by show b < B; omega)).trans (hz j hj).2⟩⟩⟩
theorem RR.nil (w : World) : RR w none 0 0 [] := ⟨rfl, Nat.le_refl _, by decide, fun h => absurd h (by decide)⟩
def rgCells (x : Rg) : List Value := [.int .i32 x.1, .int .i32 x.2]
theorem rgCells_len : ∀ (l : List Rg), (l.flatMap rgCells).length = l.length * 2
  | [] => rfl
  | p :: l => by rw [List.flatMap_cons, List.length_append, rgCells_len l]; simp [rgCells]; omega
theorem rgCells_get : ∀ (l : List Rg) (k : Nat) (h : k < l.length), (l.flatMap rgCells)[k * 2]? = some (.int .i32 l[k].1) ∧ (l.flatMap rgCells)[k * 2 + 1]? = some (.int .i32 l[k].2)
  | x :: r, 0, _ => ⟨rfl, rfl⟩
  | x :: r, k + 1, h => by
    have := rgCells_get r k (by simpa using h)
    simpa [rgCells, Nat.add_mul] using this
theorem RR.of_own {W : World} {B n c : Nat} {e : TypeId} {A : Option Addr} {l : List Rg} (h : W.ownsRow B e 2 (.slice A n c) n (l.flatMap rgCells)) : RR W A n c l := by
  have hl := h.1
  rw [rgCells_len] at hl
  have hn : n = l.length := by omega
  obtain ⟨a, c', hv, h1, h2, hc⟩ := owns_form h
  injection hv with hA _ hcc
  subst hA hcc
  refine ⟨hn, h1, by unfold maxLen at h2; omega, fun hn0 => ?_⟩
  obtain ⟨g, rfl, _, hg, hcell⟩ := hc hn0
  refine ⟨g, 0, rfl, hg, fun j hj => ?_⟩
  have := rgCells_get l j hj
  rw [Nat.zero_add, hcell _ (by omega), hcell _ (by omega)]
  exact this
/-- Each number is one of 32 bits. -/
def In32 (l : List Rg) : Prop := ∀ x ∈ l, (-2147483648 ≤ x.1 ∧ x.1 ≤ 2147483647) ∧ (-2147483648 ≤ x.2 ∧ x.2 ≤ 2147483647)
theorem rr_of {w : World} {a : Option Addr} {len cap : Nat} {D : List (List Value)} (h : IsAggRow [.int .i32, .int .i32] w a len cap D) : ∃ l : List Rg, RR w a len cap l ∧ In32 l := by
  obtain ⟨hlen, hD, hc, hm, hcell⟩ := h
  obtain ⟨l, hl, hp⟩ := exists_list (P := fun i (x : Rg) => ∃ r, D[i]? = some r ∧ r[0]? = some (.int .i32 x.1) ∧ r[1]? = some (.int .i32 x.2) ∧ ((-2147483648 ≤ x.1 ∧ x.1 ≤ 2147483647) ∧ (-2147483648 ≤ x.2 ∧ x.2 ≤ 2147483647))) len (fun i hi => by
    have hi' : i < D.length := by omega
    obtain ⟨hr, hk⟩ := hD D[i] (List.getElem_mem hi')
    obtain ⟨c0, e0, z0, rfl, w0⟩ := hk 0 (.int .i32) rfl
    obtain ⟨c1, e1, z1, rfl, w1⟩ := hk 1 (.int .i32) rfl
    refine ⟨(z0, z1), D[i], List.getElem?_eq_getElem hi', e0, e1, ?_⟩
    simp only [Lit.wf, IntKind.min, IntKind.max, IntKind.signed, IntKind.bits, Bool.and_eq_true] at w0 w1
    simp at w0 w1
    exact ⟨by omega, by omega⟩)
  refine ⟨l, ⟨hl.symm, hc, by unfold maxLen at hm; omega, fun hn => ?_⟩, fun x hx => ?_⟩
  · obtain ⟨b, off, e, hb, hcc⟩ := hcell.resolve_left (by omega)
    refine ⟨b, off, e, hb, fun j hj => ?_⟩
    obtain ⟨r, hr, e0, e1, _⟩ := hp j l[j] (List.getElem?_eq_getElem hj)
    exact ⟨hcc j r 0 _ hr e0, hcc j r 1 _ hr e1⟩
  · obtain ⟨j, hj, rfl⟩ := List.mem_iff_getElem.1 hx
    obtain ⟨r, hr, e0, e1, hw⟩ := hp j l[j] (List.getElem?_eq_getElem hj)
    exact hw

def okB (x : Rg) : Bool := decide (okR x)
theorem okB_parts (lo hi : Int) : okB (lo, hi) = (decide (0 ≤ lo) && decide (lo ≤ hi) && decide (hi ≤ 1114111)) := by
  unfold okB
  rw [Bool.eq_iff_iff, Bool.and_eq_true, Bool.and_eq_true, decide_eq_true_iff, decide_eq_true_iff, decide_eq_true_iff, decide_eq_true_iff]
  show (0 ≤ lo ∧ lo ≤ hi ∧ hi ≤ 1114111) ↔ _
  constructor
  · rintro ⟨a, b, c⟩; exact ⟨⟨a, b⟩, c⟩
  · rintro ⟨⟨a, b⟩, c⟩; exact ⟨a, b, c⟩
theorem right_any (lo hi : Int) (w : World) : Calls Try.prog 49 #[.agg #[.int .i32 lo, .int .i32 hi]] w fun e w' => e = .returned (.bool (okB (lo, hi))) ∧ Below w.heap.size w w' := by
  rw [okB_parts]
  by_cases h1 : 0 ≤ lo
  · by_cases h2 : lo ≤ hi
    · by_cases h3 : hi ≤ 1114111
      · rw [decide_eq_true h1, decide_eq_true h2, decide_eq_true h3]
        go_enter Try.func49, Try.ntmps49
        go_wp2_with fail
        go_ret
        exact ⟨rfl, (Below.refl _ _).alloc (Nat.le_refl _) _⟩
      · rw [decide_eq_true h1, decide_eq_true h2, decide_eq_false h3]
        go_enter Try.func49, Try.ntmps49
        go_wp2_with fail
        go_ret
        exact ⟨rfl, (Below.refl _ _).alloc (Nat.le_refl _) _⟩
    · rw [decide_eq_false h2, Bool.and_false, Bool.false_and]
      go_enter Try.func49, Try.ntmps49
      go_wp2_with fail
      go_ret
      exact ⟨rfl, (Below.refl _ _).alloc (Nat.le_refl _) _⟩
  · rw [decide_eq_false h1, Bool.false_and, Bool.false_and]
    go_enter Try.func49, Try.ntmps49
    go_wp2_with fail
    go_ret
    exact ⟨rfl, (Below.refl _ _).alloc (Nat.le_refl _) _⟩
/-- Is a number in one of them? As a truth value. -/
def inB (l : List Rg) (r : Int) : Bool := l.any fun x => decide (x.1 ≤ r ∧ r ≤ x.2)
theorem inB_iff (l : List Rg) (r : Int) : inB l r = true ↔ memR l r := by
  unfold inB
  rw [List.any_eq_true]
  constructor
  · rintro ⟨x, hx, h⟩; exact ⟨x, hx, of_decide_eq_true h⟩
  · rintro ⟨x, hx, h⟩; exact ⟨x, hx, decide_eq_true h⟩
theorem inB_yes {l : List Rg} {r : Int} (h : memR l r) : inB l r = true := (inB_iff l r).2 h
theorem inB_no {l : List Rg} {r : Int} (h : ¬ memR l r) : inB l r = false := by
  rw [Bool.eq_false_iff]
  exact fun k => h ((inB_iff l r).1 k)
set_option maxHeartbeats 1000000 in
theorem in_any (a : Option Addr) (n cap : Nat) (l : List Rg) (r : Int) (w : World) (hl : RR w a n cap l) (hn : n ≤ 1000000) :
    Calls Try.prog 33 #[.slice a n cap, .int .i32 r] w fun e w' => e = .returned (.bool (inB l r)) ∧ w' = w := by
  have HL := hid hl
  have HN := hid hl.1
  clear hl
  go_enter Try.func33, Try.ntmps33
  go_wp2_with fail
  go_loopg [5] n (fun kx s5 wr => ∃ i : Nat, s5 = .int .i64 i ∧ i ≤ n ∧ n - i ≤ kx ∧ wr = w ∧ Hid (¬ memR (l.take i) r))
  case atStart => exact ⟨0, rfl, Nat.zero_le _, by omega, rfl, memR_nil r⟩
  case round =>
    obtain ⟨i, rfl, hi, hg, hw, A⟩ := hrel
    obtain rfl : w = wr := hw.symm
    by_cases hlt : i < n
    · have hlt' : (i : Int) < (n : Int) := by omega
      have hil : i < l.length := by have := HN.out; omega
      obtain ⟨b, off, rfl, hbl, hc⟩ := HL.out.2.2.2 (by omega)
      obtain ⟨c0, c1⟩ := hc i hil
      have hmem := List.getElem_mem hil
      have htk : l.take (i + 1) = l.take i ++ [l[i]] := by rw [List.take_add_one, List.getElem?_eq_getElem hil]; rfl
      generalize l[i] = x at *
      obtain ⟨lo, hi2⟩ := x
      simp only at c0 c1
      have HMEM := hid hmem
      have HTK := hid htk
      clear hc hmem htk
      by_cases h1 : lo ≤ r
      · by_cases h2 : r ≤ hi2
        · have HY := hid (inB_yes (show memR l r from ⟨_, HMEM.out, h1, h2⟩))
          go_wp2_with fail
          go_ret
          exact ⟨ret_bool HY.out.symm, rfl⟩
        · have HNX := hid (show ¬ memR (l.take (i + 1)) r by
            rw [HTK.out, memR_append, memR_cons]
            rintro (h | ⟨_, h⟩ | h)
            · exact A.out h
            · exact h2 h
            · exact memR_nil r h)
          go_wp2_with fail
          go_roundg (n - (i + 1))
          case measure => omega
          case rel => exact ⟨i + 1, by go_num, by omega, Nat.le_refl _, rfl, HNX⟩
      · have HNX := hid (show ¬ memR (l.take (i + 1)) r by
          rw [HTK.out, memR_append, memR_cons]
          rintro (h | ⟨h, _⟩ | h)
          · exact A.out h
          · exact h1 h
          · exact memR_nil r h)
        go_wp2_with fail
        go_roundg (n - (i + 1))
        case measure => omega
        case rel => exact ⟨i + 1, by go_num, by omega, Nat.le_refl _, rfl, HNX⟩
    · have hlt' : ¬ (i : Int) < (n : Int) := by omega
      have HF := hid (inB_no (show ¬ memR l r by
        have := A.out
        rwa [List.take_of_length_le (by have := HN.out; omega)] at this))
      clear hi hg hlt
      go_wp2_with fail
      go_ret
      exact ⟨ret_bool HF.out.symm, rfl⟩

end Go.Proofs.Ytbkjanlkklmleaa
