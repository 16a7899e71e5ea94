/- Chapter 25: lists of items; the law's List, Ints.Is; Classes of both. -/
import Derived.BigQuiet
import Derived.Maps.AppendAt
import Derived.OwnWalk
import Derived.Deep.AppendLies
import Derived.Test.YtfhmeemkmdkhoaaProg
import Derived.Test.YtfhmeemkmdkhoaaOverlay
import Derived.Test.YtfhmeemkmdkhoaaOverlayTo
import Derived.Test.YtfhmeemkmdkhoaaRefBetween
import Derived.Test.YtfhmeemkmdkhoaaMem
import Derived.Test.YtfhmeemkmdkhoaaWords
namespace Go.Proofs.Ytfhmeemkmdkhoaa
open Go.RowKit
open Go.Lib (hid)
set_option linter.unusedVariables false

structure It where
  r : Int
  a : Int
  s : Int
  f : Bool
  c : Bool
  n : Bool
  p : Bool
def It.cells (x : It) : List Value := [.int .i32 x.r, .int .i64 x.a, .int .i64 x.s, .bool x.f, .bool x.c, .bool x.n, .bool x.p]

theorem itCells_len : ∀ (l : List It), (l.flatMap It.cells).length = l.length * 7
  | [] => rfl
  | p :: l => by rw [List.flatMap_cons, List.length_append, itCells_len l]; simp [It.cells]; omega

theorem itCells_get : ∀ (l : List It) (i : Nat) (p : It), l[i]? = some p → ∀ j, j < 7 → (l.flatMap It.cells)[i * 7 + j]? = p.cells[j]?
  | [], i, p, h, _, _ => by simp at h
  | x :: l, 0, p, h, j, hj => by
    simp at h; subst h
    rw [List.flatMap_cons, Nat.zero_mul, Nat.zero_add, List.getElem?_append_left (by simpa [It.cells] using hj)]
  | x :: l, i + 1, p, h, j, hj => by
    rw [List.flatMap_cons, List.getElem?_append_right (by simp [It.cells]; omega)]
    have := itCells_get l i p (by simpa using h) j hj
    rw [← this]
    congr 1
    simp [It.cells]
    omega

/-- A row of items. -/
def ItRow (w : World) (a : Option Addr) (xs : List It) : Prop :=
  ∀ i x, xs[i]? = some x → ∃ b off, a = some ⟨b, off, none⟩ ∧ b < w.heap.size ∧ ∀ j c, x.cells[j]? = some c → w.cell? ⟨b, off + (i * 7 + j), none⟩ = some c

theorem ItRow.below {w w' : World} {a : Option Addr} {xs : List It} {B : Nat} (h : ItRow w a xs) (hb : Below B w w') (hB : w.heap.size ≤ B) : ItRow w' a xs := by
  intro i x hx
  obtain ⟨b, off, h1, h2, h3⟩ := h i x hx
  have := hb.size
  exact ⟨b, off, h1, by omega, fun j c hc => (hb.cell (by show b < B; omega)).trans (h3 j c hc)⟩

theorem ItRow.of_own {W : World} {B n c : Nat} {e : TypeId} {A : Option Addr} {xs : List It} (h : W.ownsRow B e 7 (.slice A n c) n (xs.flatMap It.cells)) (hn : n = xs.length) : ItRow W A xs := by
  subst hn
  obtain ⟨a, c', hv, h1, h2, hc⟩ := owns_form h
  injection hv with hA _ hcc
  subst hA hcc
  intro i x hx
  have hi := (List.getElem?_eq_some_iff.1 hx).1
  obtain ⟨g, rfl, _, hg, hcell⟩ := hc (by omega)
  refine ⟨g, 0, rfl, hg, fun j v hv => ?_⟩
  have hj := (List.getElem?_eq_some_iff.1 hv).1
  simp [It.cells] at hj
  rw [Nat.zero_add, hcell _ (by omega), itCells_get _ _ _ hx j hj, hv]

theorem info_item : (Try.prog.info? 26).map (fun i => (i.zero, i.size, i.bytes)) = some (some (.agg #[.int .i32 0, .int .i64 0, .int .i64 0, .bool false, .bool false, .bool false, .bool false]), 7, 32) := by kernel_rfl
theorem info_int : (Try.prog.info? 3).map (fun i => (i.zero, i.size, i.bytes)) = some (some (.int .i64 0), 1, 8) := by kernel_rfl

set_option maxRecDepth 100000 in
set_option maxHeartbeats 4000000 in
theorem list_any (a : Option Addr) (n cap : Nat) (xs : List It) (hn : n = xs.length) (w : World) (hs : ItRow w a xs) (hbig : n ≤ 1000000) :
    Calls Try.prog 20 #[.slice a n cap] w fun e W' => ∃ v, e = .returned v ∧ W'.ownsRow w.heap.size 26 7 v n (xs.flatMap It.cells) ∧ Below w.heap.size w W' := by
  obtain ⟨i0, hi, hz0, hz1, hz2⟩ := info_parts info_item
  have HS := hid hs
  have HN := hid hn
  have HT := hid to_any
  clear hs hn
  go_enter Try.func20, Try.ntmps20
  go_wp2
  go_loopw [3, 4] (fun s3 s4 wr => ∃ (v : Value) (i : Nat), s3 = v ∧ s4 = .int .i64 i ∧ i ≤ n ∧ wr.ownsRow w.heap.size 26 7 v i ((xs.take i).flatMap It.cells) ∧ Below w.heap.size w wr) (fun _ s4 _ => n - (intOf s4).toNat)
  case atStart => exact ⟨_, 0, rfl, rfl, Nat.zero_le _, World.ownsRow_nil _ _ _ _, Below.refl _ _⟩
  case round =>
    obtain ⟨v, i, rfl, rfl, hi1, hrow, hB⟩ := hrel
    have HROW := hid hrow
    have HB := hid hB
    have hszr := hB.size
    clear hrow hB
    by_cases hlt : i < n
    · have hlt' : (i : Int) < (n : Int) := by omega
      obtain ⟨x, hx⟩ : ∃ x, xs[i]? = some x := ⟨_, List.getElem?_eq_getElem (by have := HN.out; omega)⟩
      obtain ⟨b, off, rfl, hb, hcell⟩ := HS.out i x hx
      have htk : xs.take (i + 1) = xs.take i ++ [x] := by rw [List.take_add_one, hx]; rfl
      have HTK := hid htk
      obtain ⟨r, a1, s, f, c, nb, p⟩ := x
      have hc := fun j c hc => (HB.out.cell (p := ⟨b, off + (i * 7 + j), none⟩) hb).trans (hcell j c hc)
      have c0 := hc 0 _ rfl
      have c1 := hc 1 _ rfl
      have c2 := hc 2 _ rfl
      have c3 := hc 3 _ rfl
      have c4 := hc 4 _ rfl
      have c5 := hc 5 _ rfl
      have c6 := hc 6 _ rfl
      simp only [← Nat.add_assoc, Nat.add_zero] at c0 c1 c2 c3 c4 c5 c6
      clear hc hcell hb htk hx
      go_wp2_with fail
      refine (HT.out _ _ _ _ _ _ _ _).mono ?_
      rintro e w1 ⟨rfl, hb1⟩
      have hb1s := hb1.size
      have hrow1 := owns_below HROW.out hb1
      have HROW1 := hid hrow1
      have HB1 := hid (HB.out.trans (hb1.mono hszr))
      clear hb1 hrow1 HROW c0 c1 c2 c3 c4 c5 c6
      go_wp2_with (at_builtin; go_must (refine wpList_append_own _ rfl _ _ 42 rfl w.heap.size 26 i0 (.agg #[.int .i32 0, .int .i64 0, .int .i64 0, .bool false, .bool false, .bool false, .bool false]) 7 32 Try.underlying42 hi hz0 hz1 hz2 rfl (by decide) _ _ _ rfl (HROW1.out.alloc _) ⟨w1.heap.size, 0, none⟩ 1 1 [.int .i32 r, .int .i64 a1, .int .i64 s, .bool f, .bool c, .bool nb, .bool p] rfl rfl (World.news_of_block (cs := #[.int .i32 r, .int .i64 a1, .int .i64 s, .bool f, .bool c, .bool nb, .bool p]) (t := 26) (fr := (0, 0)) (heap_alloc_new _ _)) (by simp [Value.oneCell']) (by unfold maxLen; omega) (by omega) (by simp; omega) ?_); intro v' w2 hown' hgrow _)
      go_roundw
      case rel => exact ⟨v', i + 1, rfl, by go_num, by omega, by rw [HTK.out]; simpa [It.cells] using hown', ((HB1.out.alloc (by have := HB1.out.size; omega) _).grown hgrow (by have := HB1.out.size; simp; omega) (fun k e => (HROW1.out.lt k e).1))⟩
      case measure => simp [intOf]; omega
    · obtain rfl : i = n := by omega
      have hall : xs.take i = xs := List.take_of_length_le (by have := HN.out; omega)
      rw [hall] at HROW
      clear hall HN
      go_wp2
      go_ret
      exact ⟨_, rfl, HROW.out, HB.out⟩
end Go.Proofs.Ytfhmeemkmdkhoaa
