/- Chapter 25: Classes, both; the law's Ints.Is. -/
import Derived.Test.YtfhmeemkmdkhoaaItems
import Derived.Test.YtfhmeemkmdkhoaaRefClass
import Derived.Test.YtfhmeemkmdkhoaaCls
namespace Go.Proofs.Ytfhmeemkmdkhoaa
open Go.RowKit
open Go.Lib (hid)
set_option linter.unusedVariables false

def clsOf (xs : List It) : List Value := xs.map (fun x => .int .i64 (cls x.r))

set_option maxRecDepth 100000 in
set_option maxHeartbeats 4000000 in
theorem classes_any (a : Option Addr) (n cap : Nat) (xs : List It) (hn : n = xs.length) (w : World) (hs : ItRow w a xs) (hbig : n ≤ 1000000) :
    Calls Try.prog 21 #[.slice a n cap] w fun e W' => ∃ v, e = .returned v ∧ W'.ownsRow w.heap.size 3 1 v n (clsOf xs) ∧ Below w.heap.size w W' := by
  obtain ⟨i0, hi, hz0, hz1, hz2⟩ := info_parts info_int
  have HS := hid hs
  have HN := hid hn
  have HT := hid class_any
  clear hs hn
  go_enter Try.func21, Try.ntmps21
  go_wp2
  go_loopw [3, 8] (fun s3 s8 wr => ∃ (v : Value) (i : Nat), s3 = v ∧ s8 = .int .i64 i ∧ i ≤ n ∧ wr.ownsRow w.heap.size 3 1 v i (clsOf (xs.take i)) ∧ Below w.heap.size w wr) (fun _ s8 _ => n - (intOf s8).toNat)
  case atStart => exact ⟨_, 0, rfl, rfl, Nat.zero_le _, World.ownsRow_nil _ _ _ _, Below.refl _ _⟩
  case round =>
    obtain ⟨v, i, rfl, rfl, hi1, hrow, hB⟩ := hrel
    have HROW := hid hrow
    have HB := hid hB
    have hszr := hB.size
    clear hrow hB
    by_cases hlt : i < n
    · have hlt' : (i : Int) < (n : Int) := by omega
      obtain ⟨x, hx⟩ : ∃ x, xs[i]? = some x := ⟨_, List.getElem?_eq_getElem (by have := HN.out; omega)⟩
      obtain ⟨b, off, rfl, hb, hcell⟩ := HS.out i x hx
      have htk : clsOf (xs.take (i + 1)) = clsOf (xs.take i) ++ [.int .i64 (cls x.r)] := by rw [List.take_add_one, hx]; simp [clsOf]
      have HTK := hid htk
      obtain ⟨r, a1, s, f, c, nb, p⟩ := x
      have hc := fun j c hc => (HB.out.cell (p := ⟨b, off + (i * 7 + j), none⟩) hb).trans (hcell j c hc)
      have c0 := hc 0 _ rfl
      have c1 := hc 1 _ rfl
      have c2 := hc 2 _ rfl
      have c3 := hc 3 _ rfl
      have c4 := hc 4 _ rfl
      have c5 := hc 5 _ rfl
      have c6 := hc 6 _ rfl
      simp only [← Nat.add_assoc, Nat.add_zero] at c0 c1 c2 c3 c4 c5 c6
      clear hc hcell hb htk hx
      go_wp2_with fail
      refine (HT.out _ _).mono ?_
      rintro e w1 ⟨rfl, hb1⟩
      have hbs : w.heap.size ≤ w1.heap.size := by have := hb1.size; simp at this; omega
      have hrow1 := owns_below (HROW.out.alloc _) hb1
      have HROW1 := hid hrow1
      have HB1 := hid ((HB.out.alloc hszr _).trans (hb1.mono (by simp; omega)))
      generalize cls r = q at *
      clear hb1 hrow1 HROW c0 c1 c2 c3 c4 c5 c6
      go_wp2_with (at_builtin; go_must (refine wpList_append_own _ rfl _ _ 40 rfl w.heap.size 3 i0 (.int .i64 0) 1 8 Try.underlying40 hi hz0 hz1 hz2 rfl (by decide) _ _ _ rfl (HROW1.out.alloc _) ⟨w1.heap.size, 0, none⟩ 1 1 [.int .i64 q] rfl rfl (cell_one_new _ _ _) (by simp [Value.oneCell']) (by unfold maxLen; omega) (by omega) (by simp; omega) ?_); intro v' w2 hown' hgrow _)
      go_roundw
      case rel => exact ⟨v', i + 1, rfl, by go_num, by omega, by rw [HTK.out]; exact hown', ((HB1.out.alloc hbs _).grown hgrow (by simp; omega) (fun k e => (HROW1.out.lt k e).1))⟩
      case measure => simp [intOf]; omega
    · obtain rfl : i = n := by omega
      have hall : xs.take i = xs := List.take_of_length_le (by have := HN.out; omega)
      rw [hall] at HROW
      clear hall HN
      go_wp2
      go_ret
      exact ⟨_, rfl, HROW.out, HB.out⟩

set_option maxRecDepth 100000 in
set_option maxHeartbeats 4000000 in
theorem refclasses_any (a : Option Addr) (n cap : Nat) (xs : List It) (hn : n = xs.length) (w : World) (hs : ItRow w a xs) (hbig : n ≤ 1000000) :
    Calls Try.prog 23 #[.slice a n cap] w fun e W' => ∃ v, e = .returned v ∧ W'.ownsRow w.heap.size 3 1 v n (clsOf xs) ∧ Below w.heap.size w W' := by
  obtain ⟨i0, hi, hz0, hz1, hz2⟩ := info_parts info_int
  have HS := hid hs
  have HN := hid hn
  have ht := refclass_any
  simp only [← cls_eq] at ht
  have HT := hid ht
  clear ht
  clear hs hn
  go_enter Try.func23, Try.ntmps23
  go_wp2
  go_loopw [3, 4] (fun s3 s4 wr => ∃ (v : Value) (i : Nat), s3 = v ∧ s4 = .int .i64 i ∧ i ≤ n ∧ wr.ownsRow w.heap.size 3 1 v i (clsOf (xs.take i)) ∧ Below w.heap.size w wr) (fun _ s4 _ => n - (intOf s4).toNat)
  case atStart => exact ⟨_, 0, rfl, rfl, Nat.zero_le _, World.ownsRow_nil _ _ _ _, Below.refl _ _⟩
  case round =>
    obtain ⟨v, i, rfl, rfl, hi1, hrow, hB⟩ := hrel
    have HROW := hid hrow
    have HB := hid hB
    have hszr := hB.size
    clear hrow hB
    by_cases hlt : i < n
    · have hlt' : (i : Int) < (n : Int) := by omega
      obtain ⟨x, hx⟩ : ∃ x, xs[i]? = some x := ⟨_, List.getElem?_eq_getElem (by have := HN.out; omega)⟩
      obtain ⟨b, off, rfl, hb, hcell⟩ := HS.out i x hx
      have htk : clsOf (xs.take (i + 1)) = clsOf (xs.take i) ++ [.int .i64 (cls x.r)] := by rw [List.take_add_one, hx]; simp [clsOf]
      have HTK := hid htk
      obtain ⟨r, a1, s, f, c, nb, p⟩ := x
      have hc := fun j c hc => (HB.out.cell (p := ⟨b, off + (i * 7 + j), none⟩) hb).trans (hcell j c hc)
      have c0 := hc 0 _ rfl
      simp only [Nat.add_zero] at c0
      clear hc hcell hb htk hx
      go_wp2_with fail
      refine (HT.out _ _).mono ?_
      rintro e w1 ⟨rfl, hb1⟩
      have hbs : w.heap.size ≤ w1.heap.size := by have := hb1.size; omega
      have hrow1 := owns_below HROW.out hb1
      have HROW1 := hid hrow1
      have HB1 := hid (HB.out.trans (hb1.mono hszr))
      generalize cls r = q at *
      clear hb1 hrow1 HROW c0
      go_wp2_with (at_builtin; go_must (refine wpList_append_own _ rfl _ _ 40 rfl w.heap.size 3 i0 (.int .i64 0) 1 8 Try.underlying40 hi hz0 hz1 hz2 rfl (by decide) _ _ _ rfl (HROW1.out.alloc _) ⟨w1.heap.size, 0, none⟩ 1 1 [.int .i64 q] rfl rfl (cell_one_new _ _ _) (by simp [Value.oneCell']) (by unfold maxLen; omega) (by omega) (by simp; omega) ?_); intro v' w2 hown' hgrow _)
      go_roundw
      case rel => exact ⟨v', i + 1, rfl, by go_num, by omega, by rw [HTK.out]; exact hown', ((HB1.out.alloc hbs _).grown hgrow (by simp; omega) (fun k e => (HROW1.out.lt k e).1))⟩
      case measure => simp [intOf]; omega
    · obtain rfl : i = n := by omega
      have hall : xs.take i = xs := List.take_of_length_le (by have := HN.out; omega)
      rw [hall] at HROW
      clear hall HN
      go_wp2
      go_ret
      exact ⟨_, rfl, HROW.out, HB.out⟩

/-- A row of integers. -/
def IntsAt (w : World) (A : Option Addr) (xs : List Int) : Prop := ∀ i x, xs[i]? = some x → ∃ g, A = some ⟨g, 0, none⟩ ∧ w.cell? ⟨g, i, none⟩ = some (.int .i64 x)

theorem IntsAt.of_own {W : World} {B : Nat} {e : TypeId} {n c : Nat} {A : Option Addr} {xs : List Int} (h : W.ownsRow B e 1 (.slice A n c) n (xs.map (Value.int .i64))) (hn : n = xs.length) : IntsAt W A xs := by
  obtain ⟨a, c', hv, _, _, hc⟩ := owns_form h
  injection hv with hA _ _
  subst hA
  intro i x hx
  have hi := (List.getElem?_eq_some_iff.1 hx).1
  obtain ⟨g, ha, _, _, hcell⟩ := hc (by omega)
  refine ⟨g, ha, ?_⟩
  rw [hcell i (by omega), List.getElem?_map, hx]
  rfl

set_option maxRecDepth 100000 in
set_option maxHeartbeats 4000000 in
theorem is_eq (A1 A2 : Option Addr) (n c1 c2 : Nat) (xs : List Int) (hn : n = xs.length) (w : World) (h1 : IntsAt w A1 xs) (h2 : IntsAt w A2 xs) (hs : n ≤ 1000000) :
    Calls Try.prog 22 #[.slice A1 n c1, .slice A2 n c2] w fun e W' => e = .returned (.bool true) ∧ ∃ q, W' = w.drewN q := by
  have K1 := hid h1
  have K2 := hid h2
  have HN := hid hn
  clear h1 h2 hn
  go_enter Try.func22, Try.ntmps22
  go_wp2_with fail
  go_loopw [5] (fun s5 wr => ∃ (i q : Nat), s5 = .int .i64 i ∧ wr = w.drewN q ∧ i ≤ n) (fun s5 _ => n - (intOf s5).toNat)
  case atStart => exact ⟨0, 0, rfl, rfl, Nat.zero_le _⟩
  case round =>
    obtain ⟨i, q, rfl, rfl, hi⟩ := hrel
    by_cases hlt : i < n
    · have hlt' : (i : Int) < (n : Int) := by omega
      obtain ⟨x, hx⟩ : ∃ x, xs[i]? = some x := ⟨_, List.getElem?_eq_getElem (by have := HN.out; omega)⟩
      obtain ⟨g1, rfl, hc1⟩ := K1.out i x hx
      obtain ⟨g2, rfl, hc2⟩ := K2.out i x hx
      clear hx K1 K2
      go_wp2_with fail
      go_quiet (fail)
      go_wp2_with fail
      go_roundw
      case rel => exact ⟨i + 1, _, by go_num, rfl, by omega⟩
      case measure => simp [intOf]; omega
    · have hin : i = n := by omega
      have hge : ¬ (i : Int) < (n : Int) := by omega
      clear K1 K2
      go_wp2_with fail
      go_ret
      exact ⟨rfl, _, rfl⟩
end Go.Proofs.Ytfhmeemkmdkhoaa
