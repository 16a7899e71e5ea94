/- Walk of the document's In. -/
import Derived.Test.YtfhmeemkmdkhoaaProg
import Derived.Test.YtfhmeemkmdkhoaaRefList
namespace Go.Proofs.Ytfhmeemkmdkhoaa
open Go.RowKit
open Go.Lib

def inB (l : List (Int × Int)) (r : Int) : Bool := l.any fun p => decide (p.1 ≤ r) && decide (r ≤ p.2)

theorem inB_none (r : Int) : ∀ (l : List (Int × Int)), (∀ k (h : k < l.length), ¬ (l[k].1 ≤ r ∧ r ≤ l[k].2)) → inB l r = false := by
  intro l h
  unfold inB
  rw [List.any_eq_false]
  intro x hx
  obtain ⟨k, hk, rfl⟩ := List.getElem_of_mem hx
  have := h k hk
  simp only [Bool.and_eq_true, decide_eq_true_eq]
  exact this

theorem inB_some (r : Int) (l : List (Int × Int)) (k : Nat) (h : k < l.length) (h1 : l[k].1 ≤ r) (h2 : r ≤ l[k].2) : inB l r = true := by
  unfold inB
  rw [List.any_eq_true]
  exact ⟨l[k], List.getElem_mem h, by simp [h1, h2]⟩

theorem pairCells_get : ∀ (l : List (Int × Int)) (k : Nat) (h : k < l.length), (pairCells l)[k * 2]? = some (.int .i32 l[k].1) ∧ (pairCells l)[k * 2 + 1]? = some (.int .i32 l[k].2)
  | (a, b) :: r, 0, _ => ⟨rfl, rfl⟩
  | (a, b) :: r, k + 1, h => by
    have := pairCells_get r k (by simpa using h)
    simpa [pairCells, Nat.add_mul] using this

set_option maxHeartbeats 1000000 in
theorem refin_any (v : Value) (l : List (Int × Int)) (r : Int) (B : Nat) (w : World) (hlen : l.length < 100) (hv : IsPairs B w v l) :
    Calls Try.prog 29 #[v, .int .i32 r] w fun e w' => e = .returned (.bool (inB l r)) ∧ Below w.heap.size w w' := by
  rcases hv with ⟨rfl, rfl⟩ | ⟨b, t, _, rfl, hb⟩
  · go_enter Try.func29, Try.ntmps29
    go_wp2
    go_loop [5] (fun i => i = .int .i64 0) (fun _ => 0)
    case atStart => rfl
    case round =>
      subst hrel
      go_wp2
      go_ret
      exact ⟨rfl, Below.refl _ _⟩
  · have hB := Lib.hid hb
    clear hb
    have hlen0 : (l.length : Int) < 100 := by omega
    go_enter Try.func29, Try.ntmps29
    go_wp2
    go_loop [5] (fun i => ∃ k : Nat, i = .int .i64 k ∧ k ≤ l.length ∧ Hid (∀ j (h : j < l.length), j < k → ¬ (l[j].1 ≤ r ∧ r ≤ l[j].2))) (fun i => l.length - (RowKit.intOf i).toNat)
    case atStart => exact ⟨0, rfl, Nat.zero_le _, fun j h hj => absurd hj (Nat.not_lt_zero _)⟩
    case round =>
      obtain ⟨k, rfl, hk, HK⟩ := hrel
      by_cases hlt : k < l.length
      · have hc0 : w.cell? ⟨b, k * 2, none⟩ = some (.int .i32 l[k].1) := by
          rw [cell_of_row _ _ _ _ _ _ hB.out]; simpa using (pairCells_get l k hlt).1
        have hc1 : w.cell? ⟨b, k * 2 + 1, none⟩ = some (.int .i32 l[k].2) := by
          rw [cell_of_row _ _ _ _ _ _ hB.out]; simpa using (pairCells_get l k hlt).2
        have hlt' : (k : Int) < (l.length : Int) := by omega
        have hsm := inB_some r l k hlt
        have HS := Lib.hid hsm
        have HN : Hid (¬ (l[k].1 ≤ r ∧ r ≤ l[k].2) → ∀ j (h : j < l.length), j < k + 1 → ¬ (l[j].1 ≤ r ∧ r ≤ l[j].2)) := by
          intro hn j h hj
          by_cases e : j = k
          · subst e; exact hn
          · exact HK.out j h (by omega)
        clear hsm
        generalize l[k].1 = lo at *
        generalize l[k].2 = hi at *
        by_cases h1 : lo ≤ r
        · by_cases h2 : r ≤ hi
          · go_wp2
            go_ret
            exact ⟨ret_bool (HS.out h1 h2).symm, Below.refl _ _⟩
          · go_wp2
            go_round
            case rel => exact ⟨k + 1, by go_num, by omega, HN.out (by omega)⟩
            case measure => simp [RowKit.intOf]; omega
        · go_wp2
          go_round
          case rel => exact ⟨k + 1, by go_num, by omega, HN.out (by omega)⟩
          case measure => simp [RowKit.intOf]; omega
      · obtain rfl : k = l.length := by omega
        go_wp2
        go_ret
        exact ⟨ret_bool (inB_none r l (fun j h => HK.out j h h)).symm, Below.refl _ _⟩
end Go.Proofs.Ytfhmeemkmdkhoaa
