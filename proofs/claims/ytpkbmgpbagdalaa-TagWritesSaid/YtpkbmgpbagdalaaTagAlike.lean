/- Chapter 18: the law's comparison, where both are the same. -/
import Derived.Test.YtpkbmgpbagdalaaTagRead2
import Derived.Deep.QuietTactic
namespace Go.Proofs.Ytpkbmgpbagdalaa
open Go.RowKit
open Go.Lib (hid)
set_option linter.unusedVariables false

/-- A slice whose elements are these attributes. -/
def AtRow (w : World) (v : Value) (l : List (ByteArray × ByteArray)) : Prop :=
  ∃ A c, v = .slice A l.length c ∧ l.length ≤ c ∧ (0 < l.length → ∃ b off, A = some ⟨b, off, none⟩ ∧ b < w.heap.size ∧ ∀ i a, l[i]? = some a → w.cell? ⟨b, off + i * 2, none⟩ = some (.string a.1) ∧ w.cell? ⟨b, off + i * 2 + 1, none⟩ = some (.string a.2))
theorem AtRow.below {w w' : World} {v : Value} {l : List (ByteArray × ByteArray)} (h : AtRow w v l) (hb : Below w.heap.size w w') : AtRow w' v l := by
  obtain ⟨A, c, rfl, hc, hr⟩ := h
  refine ⟨A, c, rfl, hc, fun hl => ?_⟩
  obtain ⟨b, off, rfl, hbl, hcell⟩ := hr hl
  refine ⟨b, off, rfl, Nat.lt_of_lt_of_le hbl hb.size, fun i a ha => ?_⟩
  obtain ⟨h1, h2⟩ := hcell i a ha
  exact ⟨(hb.cell (p := ⟨b, _, none⟩) hbl).trans h1, (hb.cell (p := ⟨b, _, none⟩) hbl).trans h2⟩
theorem atCells_get (l : List (ByteArray × ByteArray)) (i : Nat) (a : ByteArray × ByteArray) (h : l[i]? = some a) : (atCells l)[i * 2]? = some (.string a.1) ∧ (atCells l)[i * 2 + 1]? = some (.string a.2) := by
  induction l generalizing i with
  | nil => cases h
  | cons x l ih =>
    cases i with
    | zero =>
      simp only [List.getElem?_cons_zero, Option.some.injEq] at h
      subst h
      exact ⟨rfl, rfl⟩
    | succ i =>
      have := ih i (by simpa using h)
      rw [show (i + 1) * 2 = i * 2 + 1 + 1 by omega]
      exact this
theorem atCells_len (l : List (ByteArray × ByteArray)) : (atCells l).length = l.length * 2 := by
  induction l with
  | nil => rfl
  | cons x l ih => show (atCells l).length + 2 = _; rw [ih, List.length_cons]; omega
theorem AtRow.of_own {w : World} {B : Nat} {e : TypeId} {v : Value} {l : List (ByteArray × ByteArray)} (h : w.ownsRow B e 2 v l.length (atCells l)) : AtRow w v l := by
  obtain ⟨A, c, hv, hc, _, hr⟩ := owns_form h
  refine ⟨A, c, hv, hc, fun hl => ?_⟩
  obtain ⟨g, hA, _, hg, hcell⟩ := hr hl
  refine ⟨g, 0, hA, hg, fun i a ha => ?_⟩
  have hi := (List.getElem?_eq_some_iff.1 ha).1
  obtain ⟨h1, h2⟩ := atCells_get l i a ha
  rw [Nat.zero_add]
  exact ⟨(hcell (i * 2) (by omega)).trans h1, (hcell (i * 2 + 1) (by omega)).trans h2⟩

set_option maxRecDepth 100000 in
set_option maxHeartbeats 4000000 in
theorem alike_any (M : Mk) (v u : Value) (w : World) (hv : AtRow w v M.attrs) (hu : AtRow w u M.attrs) (hl63 : M.attrs.length ≤ 1048576) :
    Calls Try.prog 11 #[M.val v, M.val u] w fun e w' => e = .returned (.bool true) ∧ Below w.heap.size w w' := by
  obtain ⟨kd, sz, nm, l, sg, cl⟩ := M
  simp only [Mk.val]
  simp only at hv hu hl63
  obtain ⟨A, c, rfl, hlc, hr⟩ := hv
  obtain ⟨A', c', rfl, hlc', hr'⟩ := hu
  generalize hL : l.length = L at *
  have HR := hid hr
  have HR' := hid hr'
  have HL := hid hL
  clear hr hr' hL
  go_enter Try.func11, Try.ntmps11
  go_wp2_with fail
  have hb1 := (Below.refl w.heap.size w).alloc (Nat.le_refl _) (.cells #[.int .i64 kd, .int .i64 sz, .string nm, .slice A L c, .bool sg, .bool cl] 26)
  have hr1 := Blk.new w 26 #[.int .i64 kd, .int .i64 sz, .string nm, .slice A L c, .bool sg, .bool cl]
  have hs1 : (w.alloc (.cells #[.int .i64 kd, .int .i64 sz, .string nm, .slice A L c, .bool sg, .bool cl] 26)).heap.size = w.heap.size + 1 := by simp
  generalize w.alloc (.cells #[.int .i64 kd, .int .i64 sz, .string nm, .slice A L c, .bool sg, .bool cl] 26) = w1 at *
  have hb2 := hb1.alloc (by omega) (.cells #[.int .i64 kd, .int .i64 sz, .string nm, .slice A' L c', .bool sg, .bool cl] 31)
  have hr2 := hr1.alloc (.cells #[.int .i64 kd, .int .i64 sz, .string nm, .slice A' L c', .bool sg, .bool cl] 31)
  have hq2 := Blk.new w1 31 #[.int .i64 kd, .int .i64 sz, .string nm, .slice A' L c', .bool sg, .bool cl]
  rw [hs1] at hq2
  generalize w1.alloc (.cells #[.int .i64 kd, .int .i64 sz, .string nm, .slice A' L c', .bool sg, .bool cl] 31) = w2 at *
  have c3 := hr2.cell 3
  have d3 := hq2.cell 3
  simp only [List.getElem?_toArray, List.getElem?_cons_zero, List.getElem?_cons_succ] at c3 d3
  have HB2 := hid hb2
  clear hb1 hr1 hb2 hr2 hq2 hs1
  go_loopw [5] (fun s5 wr => ∃ (i q : Nat), s5 = .int .i64 i ∧ wr = w2.drewN q ∧ i ≤ L) (fun s5 _ => L - (intOf s5).toNat)
  case atStart => exact ⟨0, 0, rfl, rfl, Nat.zero_le _⟩
  case round =>
    obtain ⟨i, q, rfl, rfl, hi⟩ := hrel
    by_cases hlt : i < L
    · have hlt' : (i : Int) < (L : Int) := by omega
      obtain ⟨b, off, rfl, hbl, hcell⟩ := HR.out (by omega)
      obtain ⟨b', off', rfl, hbl', hcell'⟩ := HR'.out (by omega)
      have hil : i < l.length := by have := HL.out; omega
      have ha : l[i]? = some l[i] := List.getElem?_eq_getElem hil
      obtain ⟨n1, v1⟩ := hcell i _ ha
      obtain ⟨n2, v2⟩ := hcell' i _ ha
      generalize l[i] = at_ at *
      have e1 := (HB2.out.cell (p := ⟨b, _, none⟩) hbl).trans n1
      have e2 := (HB2.out.cell (p := ⟨b, _, none⟩) hbl).trans v1
      have e3 := (HB2.out.cell (p := ⟨b', _, none⟩) hbl').trans n2
      have e4 := (HB2.out.cell (p := ⟨b', _, none⟩) hbl').trans v2
      have hi1 : (i : Int) + 1 ≤ 9223372036854775807 := by omega
      clear hcell hcell' n1 n2 v1 v2 ha
      go_wp2_with fail
      go_quiet (fail)
      go_wp2_with fail
      go_roundw
      case rel => exact ⟨i + 1, _, by go_num, rfl, by omega⟩
      case measure => simp [intOf]; omega
    · have hlt' : ¬ (i : Int) < (L : Int) := by omega
      go_wp2_with fail
      go_ret
      exact ⟨rfl, HB2.out.trans (below_drewN _ _ _)⟩
end Go.Proofs.Ytpkbmgpbagdalaa
