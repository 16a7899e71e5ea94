/- Chapter 02: Union, Not: the walks. -/
import Derived.Test.YtbkjanlkklmleaaRgW
import Derived.Test.YtbkjanlkklmleaaApp2
namespace Go.Proofs.Ytbkjanlkklmleaa
open Go.RowKit
open Go.Lib (hid)
set_option linter.unusedVariables false
set_option maxRecDepth 100000

/-- A row of sets. -/
def RRs (w : World) (a : Option Addr) (n cap : Nat) (ls : List (List Rg)) : Prop :=
  n = ls.length ∧ n ≤ cap ∧ cap ≤ 9223372036854775807 ∧ (0 < n → ∃ b off, a = some ⟨b, off, none⟩ ∧ b < w.heap.size ∧ ∀ j (h : j < ls.length), ∃ A m c, w.cell? ⟨b, off + j, none⟩ = some (.slice A m c) ∧ RR w A m c ls[j] ∧ In32 ls[j] ∧ m ≤ 1000000)
theorem RRs.below {w w' : World} {a : Option Addr} {n cap B : Nat} {ls : List (List Rg)} (h : RRs w a n cap ls) (hb : Below B w w') (hB : w.heap.size ≤ B) : RRs w' a n cap ls :=
  ⟨h.1, h.2.1, h.2.2.1, fun hn => by
    obtain ⟨b, off, e, hbl, hz⟩ := h.2.2.2 hn
    refine ⟨b, off, e, Nat.lt_of_lt_of_le hbl hb.size, fun j hj => ?_⟩
    obtain ⟨A, m, c, h1, h2, h3, h4⟩ := hz j hj
    exact ⟨A, m, c, (hb.cell (p := ⟨b, _, none⟩) (by show b < B; omega)).trans h1, h2.below hb hB, h3, h4⟩⟩
theorem RRs.nil (w : World) : RRs w none 0 0 [] := ⟨rfl, Nat.le_refl _, by decide, fun h => absurd h (by decide)⟩
/-- All ranges of the sets that are right. -/
def allK (ls : List (List Rg)) : List Rg := ls.flatMap knownL
theorem allK_len (ls : List (List Rg)) : (allK ls).length ≤ (ls.map List.length).sum := by
  induction ls with
  | nil => exact Nat.le_refl _
  | cons l ls ih =>
    have := knownL_len l
    unfold allK at *
    rw [List.flatMap_cons, List.length_append, List.map_cons, List.sum_cons]
    omega
theorem sum_take_le (l : List Nat) (i : Nat) : (l.take i).sum ≤ l.sum := by
  induction l generalizing i with
  | nil => simp
  | cons x l ih =>
    cases i with
    | zero => simp
    | succ i => have := ih i; simp only [List.take_succ_cons, List.sum_cons]; omega
theorem allK_ok (ls : List (List Rg)) : ∀ x ∈ allK ls, okR x := by
  intro x hx
  obtain ⟨l, hl, h⟩ := List.mem_flatMap.1 hx
  exact right_ok (knownL_right l) x h
theorem memR_all (ls : List (List Rg)) (r : Int) : memR (allK ls) r ↔ ∃ l ∈ ls, memR (knownL l) r := by
  constructor
  · rintro ⟨x, hx, h⟩
    obtain ⟨l, hl, h2⟩ := List.mem_flatMap.1 hx
    exact ⟨l, hl, x, h2, h⟩
  · rintro ⟨l, hl, x, hx, h⟩
    exact ⟨x, List.mem_flatMap.2 ⟨l, hl, hx⟩, h⟩
/-- The right list of numbers of one of the sets. -/
def RetU (w : World) (e : Ending) (w' : World) (ls : List (List Rg)) : Prop := ∃ u : List Rg, rightR u ∧ (∀ r, memR u r ↔ ∃ l ∈ ls, memR (knownL l) r) ∧ RetR w e w' u
/-- .. of memory of the call's own. -/
def RetUW (w : World) (e : Ending) (w' : World) (ls : List (List Rg)) : Prop := ∃ u : List Rg, rightR u ∧ (∀ r, memR u r ↔ ∃ l ∈ ls, memR (knownL l) r) ∧ RetW w e w' u
set_option maxHeartbeats 4000000 in
theorem unionW_any (a : Option Addr) (n cap : Nat) (ls : List (List Rg)) (w : World) (hl : RRs w a n cap ls) (hs : (ls.map List.length).sum ≤ 900000) (hn : n ≤ 1000000) :
    Calls Try.prog 19 #[.slice a n cap] w fun e w' => RetUW w e w' ls := by
  obtain ⟨i0, hi, hz0, hz1, hz2⟩ := info_parts info_rg
  have HL := hid hl
  have HN := hid hl.1
  have hal := allK_len ls
  have HAB := hid (show ∀ i, (allK (ls.take i)).length ≤ 900000 from fun i => Nat.le_trans (allK_len (ls.take i)) (Nat.le_trans (by rw [List.map_take]; exact sum_take_le _ i) hs))
  clear hl
  go_enter Try.func19, Try.ntmps19
  go_wp2_with fail
  go_loopg [3, 8] n (fun kx s3 s8 wr => ∃ (i m c : Nat) (A : Option Addr), s3 = .slice A m c ∧ s8 = .int .i64 i ∧ i ≤ n ∧ n - i ≤ kx ∧ Hid (m = (allK (ls.take i)).length) ∧ Hid (wr.ownsRow w.heap.size 48 2 (.slice A m c) m ((allK (ls.take i)).flatMap rgCells)) ∧ Hid (Below w.heap.size w wr))
  case atStart => exact ⟨0, 0, 0, none, rfl, rfl, Nat.zero_le _, by omega, rfl, World.ownsRow_nil _ _ _ _, Below.refl _ _⟩
  case round =>
    obtain ⟨i, m, c, A, rfl, rfl, hi1, hg, HM, HROW, HB⟩ := hrel
    by_cases hlt : i < n
    · have hlt' : (i : Int) < (n : Int) := by omega
      have hil : i < ls.length := by have := HN.out; omega
      obtain ⟨b, off, rfl, hbl, hz⟩ := (HL.out.below HB.out (Nat.le_refl _)).2.2.2 (by omega)
      obtain ⟨A1, m1, c1, x0, hr, h32, hm1⟩ := hz i hil
      have hmb : m ≤ 900000 := by have := HM.out; have := HAB.out i; omega
      have htk : allK (ls.take (i + 1)) = allK (ls.take i) ++ knownL ls[i] := by unfold allK; rw [List.take_add_one, List.getElem?_eq_getElem hil, List.flatMap_append]; simp
      have hK := known_any A1 m1 c1 ls[i] wr hr hm1 h32
      generalize hkl : knownL ls[i] = kl at *
      have HKL := hid (show kl.length ≤ m1 by rw [← hkl, hr.1]; exact knownL_len _)
      have HK := hid hK
      have HTK := hid htk
      clear hz hr h32 hK htk hkl
      go_wp2_with fail
      refine HK.out.mono ?_
      rintro e w2 ⟨A2, m2, c2, rfl, hr2, hb2⟩
      have HR2 := hid hr2
      have HB2 := hid (HB.out.trans (hb2.mono HB.out.size))
      have HROW2 := hid (HROW.out.kept (grown_of_below hb2 none) (by cases h : (Value.slice A m c).ownBlock <;> simp))
      have hm2 : m2 ≤ 1000000 := by have := hr2.1; have := HKL.out; omega
      have HM2 := hid hr2.1
      clear hr2 hb2
      go_wp2_with (at_builtin; refine wpList_append_two _ rfl (.tmp 12) (.tmp 14) 22 23 rfl w.heap.size 48 48 i0 (.agg #[.int .i32 0, .int .i32 0]) 2 8 Try.underlying22 Try.underlying23 hi hz0 hz1 hz2 rfl (by decide) _ m ((allK (ls.take i)).flatMap rgCells) rfl HROW2.out _ A2 m2 c2 (kl.flatMap rgCells) rfl HR2.out.reads (rg_one _) (by unfold maxLen; omega) (by omega) HB2.out.size ?_; intro v1 w7 ho7 hg7 hq7; have HB7 := hid (HB2.out.grown hg7 HB2.out.size (own_ge HROW2.out)); obtain ⟨A7, c7, rfl⟩ := owns_slice ho7; have HO7 := hid ho7; clear ho7 hg7 hq7)
      go_roundg (n - (i + 1))
      case measure => omega
      case rel => exact ⟨i + 1, m + m2, c7, A7, rfl, by go_num, by omega, Nat.le_refl _, (by show m + m2 = _; rw [HTK.out, List.length_append, HM.out, HM2.out]), (by show World.ownsRow _ _ _ _ _ _ _; rw [HTK.out, List.flatMap_append]; exact HO7.out), HB7⟩
    · obtain rfl : i = n := by omega
      have ht : ls.take i = ls := List.take_of_length_le (by have := HN.out; omega)
      rw [ht] at HROW HM
      have hmb : m ≤ 900000 := by have := HM.out; omega
      have hrr := RR.of_own HROW.out
      have hfl := Flat.of_own HROW.out
      clear ht
      go_wp2_with fail
      refine (mergeW_any A m c (allK ls) wr hrr hfl hmb (allK_ok ls)).mono ?_
      rintro e w3 ⟨k, hp, hs2, A2, m2, c2, rfl, hr2, hb2⟩
      have HP := hid hp
      have HS2 := hid hs2
      have HR2 := hid hr2
      have HB2 := hid (HB.out.trans (hb2.mono HB.out.size))
      clear hp hs2 hr2 hb2 hrr
      go_wp2_with fail
      go_ret
      have hk : ∀ x ∈ k, okR x := fun x hx => allK_ok ls x (HP.out.mem_iff.1 hx)
      obtain ⟨u1, u2⟩ := mergeR_law hk HS2.out
      refine ⟨mergeR k, u1, fun r => ?_, _, _, _, rfl, owns_base HR2.out HB.out.size, HB2.out⟩
      rw [u2, ← memR_all]
      exact ⟨fun ⟨x, hx, h⟩ => ⟨x, HP.out.mem_iff.1 hx, h⟩, fun ⟨x, hx, h⟩ => ⟨x, HP.out.mem_iff.2 hx, h⟩⟩
theorem union_any (a : Option Addr) (n cap : Nat) (ls : List (List Rg)) (w : World) (hl : RRs w a n cap ls) (hs : (ls.map List.length).sum ≤ 900000) (hn : n ≤ 1000000) :
    Calls Try.prog 19 #[.slice a n cap] w fun e w' => RetU w e w' ls :=
  (unionW_any a n cap ls w hl hs hn).mono fun _ _ ⟨u, h1, h2, A, m, c, he, ho, hb⟩ => ⟨u, h1, h2, A, m, c, he, RR.of_own ho, hb⟩
end Go.Proofs.Ytbkjanlkklmleaa
