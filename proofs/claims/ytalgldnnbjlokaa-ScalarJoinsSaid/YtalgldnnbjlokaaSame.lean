/- The law's own function same: equal rows are the same. -/
import Derived.BigQuiet
import Derived.Test.YtalgldnnbjlokaaProg
import Derived.Test.YtalgldnnbjlokaaStarts
import Derived.Test.YtalgldnnbjlokaaWords
namespace Go.Proofs.Ytalgldnnbjlokaa
open Go.RowKit
open Go.Lib (hid)
set_option linter.unusedVariables false

def RunesAt (w : World) (A : Option Addr) (xs : List Int) : Prop := ∀ i, i < xs.length → ∃ g, A = some ⟨g, 0, none⟩ ∧ ∃ x, xs[i]? = some x ∧ w.cell? ⟨g, i, none⟩ = some (.int .i32 x)

theorem own_ge {W : World} {B : Nat} {e : TypeId} {k n : Nat} {v : Value} {xs : List Value} (h : W.ownsRow B e k v n xs) : ∀ g, v.ownBlock = some g → B ≤ g := by
  rcases h.2 with ⟨rfl, _⟩ | ⟨g', cap, cur, rfl, hg, _⟩
  · intro g hg; simp [Value.ownBlock] at hg
  · intro g h; simp [Value.ownBlock] at h; omega

theorem owns_slice {W : World} {B : Nat} {e : TypeId} {k n : Nat} {v : Value} {xs : List Value} (h : W.ownsRow B e k v n xs) : ∃ A c, v = .slice A n c := by
  obtain ⟨a, c, hv, _⟩ := owns_form h
  exact ⟨a, c, hv⟩

theorem owns_base {W : World} {B B' : Nat} {e : TypeId} {k n : Nat} {v : Value} {xs : List Value} (h : W.ownsRow B e k v n xs) (hB : B' ≤ B) : W.ownsRow B' e k v n xs := by
  refine ⟨h.1, ?_⟩
  rcases h.2 with h2 | ⟨g, cap, cur, hv, hg, r⟩
  · exact .inl h2
  · exact .inr ⟨g, cap, cur, hv, by omega, r⟩

/-- An empty literal's row. -/
theorem owns_empty (w : World) (e : TypeId) (k : Nat) : (w.alloc (.cells #[] e)).ownsRow w.heap.size e k (.slice (some ⟨w.heap.size, 0, none⟩) 0 0) 0 [] :=
  ⟨by simp, .inr ⟨w.heap.size, 0, #[], rfl, Nat.le_refl _, heap_alloc_new w _, Nat.le_refl _, Nat.zero_le _, by simp, by simp⟩⟩

theorem SB.reads {w : World} {a : Option Addr} {cap : Nat} {zs : List Int} (h : SB w a cap zs) : Reads w w.heap.size 1 a zs.length (zs.map (Value.int .u8)) := by
  refine ⟨by simp, fun hn => ?_⟩
  rcases h.2.2.2 with h0 | ⟨b, off, rfl, hb, hr⟩
  · subst h0; cases hn
  · refine ⟨_, rfl, hb, fun j u hu => ?_⟩
    have hj : j < zs.length := by
      have := (List.getElem?_eq_some_iff.1 hu).1
      simpa using this
    have hc := hr j hj
    rw [List.getElem?_map, List.getElem?_eq_getElem hj] at hu
    have he : (⟨b, off, none⟩ : Addr).add j = ⟨b, off + j, none⟩ := by
      unfold Addr.add
      split
      · subst j; rfl
      · rfl
    rw [he, hc, List.getD_eq_getElem?_getD, List.getElem?_eq_getElem hj]
    simpa using hu

theorem SB.of_own {W : World} {B n c : Nat} {e : TypeId} {A : Option Addr} {zs : List Int} (h : W.ownsRow B e 1 (.slice A n c) n (zs.map (Value.int .u8))) (hn : n = zs.length) (hz : Bytes zs) : SB W A c zs := by
  subst hn
  obtain ⟨a, c', hv, h1, h2, hc⟩ := owns_form h
  injection hv with hA _ hcc
  subst hA hcc
  refine ⟨h1, by unfold maxLen at h2; omega, hz, ?_⟩
  rcases Nat.eq_zero_or_pos zs.length with h0 | h0
  · exact .inl (List.eq_nil_of_length_eq_zero h0)
  · obtain ⟨g, rfl, _, hg, hcell⟩ := hc h0
    refine .inr ⟨g, 0, rfl, hg, fun i hi => ?_⟩
    rw [Nat.zero_add, hcell i (by omega), List.getElem?_map, List.getElem?_eq_getElem hi, List.getD_eq_getElem?_getD, List.getElem?_eq_getElem hi]
    rfl

theorem RunesAt.of_own {W : World} {B : Nat} {e : TypeId} {n c : Nat} {A : Option Addr} {xs : List Int} (h : W.ownsRow B e 1 (.slice A n c) n (xs.map (Value.int .i32))) (hn : n = xs.length) : RunesAt W A xs := by
  obtain ⟨a, c', hv, _, _, hc⟩ := owns_form h
  injection hv with hA _ _
  subst hA
  intro i hi
  obtain ⟨g, ha, _, _, hcell⟩ := hc (by omega)
  refine ⟨g, ha, xs[i], List.getElem?_eq_getElem hi, ?_⟩
  rw [hcell i (by omega), List.getElem?_map, List.getElem?_eq_getElem hi]
  rfl

set_option maxRecDepth 100000 in
set_option maxHeartbeats 4000000 in
theorem same_eq (A1 A2 : Option Addr) (n c1 c2 : Nat) (xs : List Int) (hn : n = xs.length) (w : World) (h1 : RunesAt w A1 xs) (h2 : RunesAt w A2 xs) (hs : n ≤ 1000000) :
    Calls Try.prog 15 #[.slice A1 n c1, .slice A2 n c2] w fun e W' => e = .returned (.bool true) ∧ ∃ q, W' = w.drewN q := by
  have K1 := hid h1
  have K2 := hid h2
  have HN := hid hn
  clear h1 h2 hn
  go_enter Try.func15, Try.ntmps15
  go_wp2_with fail
  go_loopw [5] (fun s5 wr => ∃ (i q : Nat), s5 = .int .i64 i ∧ wr = w.drewN q ∧ i ≤ n) (fun s5 _ => n - (intOf s5).toNat)
  case atStart => exact ⟨0, 0, rfl, rfl, Nat.zero_le _⟩
  case round =>
    obtain ⟨i, q, rfl, rfl, hi⟩ := hrel
    by_cases hlt : i < n
    · have hlt' : (i : Int) < (n : Int) := by omega
      obtain ⟨g1, rfl, x, hx, hc1⟩ := K1.out i (by have := HN.out; omega)
      obtain ⟨g2, rfl, y, hy, hc2⟩ := K2.out i (by have := HN.out; omega)
      obtain rfl : x = y := by rw [hx] at hy; exact Option.some.inj hy
      clear hx hy K1 K2
      go_wp2_with fail
      go_quiet (fail)
      go_wp2_with fail
      go_roundw
      case rel => exact ⟨i + 1, _, by go_num, rfl, by omega⟩
      case measure => simp [intOf]; omega
    · have hin : i = n := by omega
      have hge : ¬ (i : Int) < (n : Int) := by omega
      clear K1 K2
      go_wp2_with fail
      go_ret
      exact ⟨rfl, _, rfl⟩
end Go.Proofs.Ytalgldnnbjlokaa
