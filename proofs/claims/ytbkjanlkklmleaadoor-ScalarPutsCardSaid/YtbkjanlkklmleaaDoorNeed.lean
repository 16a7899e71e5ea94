/- Walks of scalar.need, there, value, read, Next. -/
import Derived.Test.YtbkjanlkklmleaaDoorProg
import Derived.Test.YtbkjanlkklmleaaDoorBase
import Derived.Test.YtbkjanlkklmleaaDoorMem
import Derived.Test.YtbkjanlkklmleaaDoorScal
import Derived.Deep.LoopGhost
namespace Go.Proofs.YtbkjanlkklmleaaDoor
open Go.RowKit
open Go.Lib

theorem ret_t3 {n n' lo lo' hi hi' : Int} (h1 : n = n') (h2 : lo = lo') (h3 : hi = hi') : Ending.returned (.tuple #[.int .i64 n, .int .u8 lo, .int .u8 hi]) = .returned (.tuple #[.int .i64 n', .int .u8 lo', .int .u8 hi']) := by
  subst h1 h2 h3; rfl

set_option maxHeartbeats 4000000 in
theorem need_any (c : Int) (h0 : 0 ≤ c) (h1 : c ≤ 255) (w : World) : Calls Tryd.prog 45 #[.int .u8 c] w fun e w' => e = .returned (.tuple #[.int .i64 (needN c), .int .u8 (needLo c), .int .u8 (needHi c)]) ∧ w = w' := by
  go_enter Tryd.func45, Tryd.ntmps45
  go_wp2
  all_goals
    simp only [beq_iff_eq, beq_eq_false_iff_ne, ne_eq] at *
    first
      | (exfalso; omega)
      | (go_ret3
         refine ⟨ret_t3 ?_ ?_ ?_, rfl⟩
         · unfold needN; repeat (first | rw [if_pos (by omega)] | rw [if_neg (by omega)])
         · unfold needLo; repeat (first | rw [if_pos (by omega)] | rw [if_neg (by omega)])
         · unfold needHi; repeat (first | rw [if_pos (by omega)] | rw [if_neg (by omega)]))

theorem thereGo_step {l : List Int} {k n : Nat} {lo hi c : Int} (h : l[k]? = some c) (hk : k < n) : thereGo (l.drop k) (n - k) lo hi = if lo ≤ c ∧ c ≤ hi then thereGo (l.drop (k + 1)) (n - (k + 1)) 128 191 + 1 else 0 := by
  obtain ⟨hlt, rfl⟩ := List.getElem?_eq_some_iff.1 h
  rw [List.drop_eq_getElem_cons hlt, show n - k = (n - (k + 1)) + 1 by omega]
  rfl
theorem thereGo_end {l : List Int} {k n : Nat} {lo hi : Int} (h : n ≤ k ∨ l.length ≤ k) : thereGo (l.drop k) (n - k) lo hi = 0 := by
  rcases h with h | h
  · rw [show n - k = 0 by omega]
    cases l.drop k <;> rfl
  · rw [List.drop_eq_nil_of_le h]; rfl

/-- Bytes that lie in memory: a row of them. -/
def BRow (w : World) (b off : Nat) (zs : List Int) : Prop := ∀ i, i < zs.length → w.cell? ⟨b, off + i, none⟩ = some (.int .u8 (zs.getD i 0))
/-- Each is a byte. -/
def Bytes (zs : List Int) : Prop := ∀ x ∈ zs, 0 ≤ x ∧ x ≤ 255

theorem Bytes.get {zs : List Int} (h : Bytes zs) {i : Nat} (hi : i < zs.length) : 0 ≤ zs.getD i 0 ∧ zs.getD i 0 ≤ 255 := by
  rw [List.getD_eq_getElem?_getD, List.getElem?_eq_getElem hi]
  exact h _ (List.getElem_mem hi)
theorem BRow.drop {w : World} {b off : Nat} {zs : List Int} (h : BRow w b off zs) (k : Nat) : BRow w b (off + k) (zs.drop k) := fun i hi => by
  have := h (k + i) (by simp at hi; omega)
  rw [Nat.add_assoc, this]
  simp
theorem BRow.take {w : World} {b off : Nat} {zs : List Int} (h : BRow w b off zs) (k : Nat) : BRow w b off (zs.take k) := fun i hi => by
  have hi' : i < zs.length ∧ i < k := by simp at hi; omega
  rw [h i hi'.1]
  simp [hi'.2]
theorem BRow.below {w w' : World} {B b off : Nat} {zs : List Int} (h : BRow w b off zs) (hb : Below B w w') (hlt : b < B) : BRow w' b off zs := fun i hi => by
  rw [hb.cell (p := ⟨b, off + i, none⟩) hlt]; exact h i hi
theorem BRow.drewN {w : World} {b off : Nat} {zs : List Int} (h : BRow w b off zs) (n : Nat) : BRow (w.drewN n) b off zs := fun i hi => h i hi
theorem Bytes.drop {zs : List Int} (h : Bytes zs) (k : Nat) : Bytes (zs.drop k) := fun x hx => h x (List.mem_of_mem_drop hx)
theorem Bytes.take {zs : List Int} (h : Bytes zs) (k : Nat) : Bytes (zs.take k) := fun x hx => h x (List.mem_of_mem_take hx)

set_option maxHeartbeats 4000000 in
theorem there_any (b off cap : Nat) (zs : List Int) (n : Nat) (lo hi : Int) (w : World) (hn1 : 1 ≤ n) (hn4 : n ≤ 4) (hz : 0 < zs.length) (_hcap : zs.length ≤ 9223372036854775807) (hrow : BRow w b off zs) :
    Calls Tryd.prog 46 #[.slice (some ⟨b, off, none⟩) zs.length cap, .int .i64 n, .int .u8 lo, .int .u8 hi] w fun e w' => e = .returned (.int .i64 ((thereGo (zs.drop 1) (n - 1) lo hi + 1 : Nat) : Int)) ∧ w = w' := by
  have HR := Lib.hid hrow
  clear hrow
  generalize hT : thereGo (zs.drop 1) (n - 1) lo hi + 1 = T
  have HT := Lib.hid hT
  clear hT
  go_enter Tryd.func46, Tryd.ntmps46
  go_wp2
  go_loop [2, 3, 9] (fun s2 s3 s9 => ∃ (k : Nat) (l h : Int), s2 = .int .u8 l ∧ s3 = .int .u8 h ∧ s9 = .int .i64 k ∧ 1 ≤ k ∧ k ≤ n ∧ k ≤ zs.length ∧ Hid (T = thereGo (zs.drop k) (n - k) l h + k)) (fun _ _ s9 => n - (RowKit.intOf s9).toNat)
  case atStart => exact ⟨1, lo, hi, rfl, rfl, rfl, Nat.le_refl _, hn1, hz, by show T = _; rw [← HT.out]⟩
  case round =>
    obtain ⟨k, l, h, rfl, rfl, rfl, hk1, hkn, hkz, HK⟩ := hrel
    clear HT
    by_cases h1 : k < n
    · by_cases h2 : k < zs.length
      · have hc := HR.out k h2
        have hst := thereGo_step (l := zs) (k := k) (n := n) (lo := l) (hi := h) (c := zs.getD k 0) (by rw [List.getD_eq_getElem?_getD, List.getElem?_eq_getElem h2]; rfl) h1
        have HS := Lib.hid hst
        clear hst
        generalize zs.getD k 0 = c at *
        have h1' : (k : Int) < (n : Int) := by omega
        have h2' : (k : Int) < (zs.length : Int) := by omega
        by_cases h3 : l ≤ c
        · by_cases h4 : c ≤ h
          · go_wp2
            go_round
            case rel => exact ⟨k + 1, 128, 191, rfl, rfl, by go_num, by omega, by omega, by omega, by show T = _; rw [HK.out, HS.out, if_pos ⟨h3, h4⟩]; omega⟩
            case measure => simp [RowKit.intOf]; omega
          · go_wp2
            go_ret
            exact ⟨ret_int (by rw [HK.out, HS.out, if_neg (by omega)]; omega), rfl⟩
        · go_wp2
          go_ret
          exact ⟨ret_int (by rw [HK.out, HS.out, if_neg (by omega)]; omega), rfl⟩
      · have h2' : ¬ (k : Int) < (zs.length : Int) := by omega
        go_wp2
        go_ret
        exact ⟨ret_int (by rw [HK.out, thereGo_end (.inr (by omega))]; omega), rfl⟩
    · have h1' : ¬ (k : Int) < (n : Int) := by omega
      go_wp2
      go_ret
      exact ⟨ret_int (by rw [HK.out, thereGo_end (.inl (by omega))]; omega), rfl⟩
end Go.Proofs.YtbkjanlkklmleaaDoor
