/- Chapter 18: marks that go up to some bytes. -/
import Derived.Test.YtpkbmgpbagdalaaTagN
import Derived.Test.YtpkbmgpbagdalaaTagShelf
import Derived.Lib.IndexMore
namespace Go.Proofs.Ytpkbmgpbagdalaa
open Go.RowKit
open Go.Lib (hid)
set_option linter.unusedVariables false

def intsOf (x : ByteArray) : List Int := x.data.toList.map fun b => (b.toNat : Int)
theorem intsOf_len (x : ByteArray) : (intsOf x).length = x.size := by simp [intsOf]
theorem intsOf_get (x : ByteArray) (i : Nat) : (intsOf x).getD i 0 = byt x i := by
  unfold intsOf byt
  rw [List.getD_eq_getElem?_getD, List.getElem?_map, Array.getElem?_toList, Array.getD_eq_getD_getElem?]
  cases x.data[i]? <;> rfl
theorem intsOf_bytes (x : ByteArray) : Lib.bytesOf (intsOf x) = x.data.toList := by
  unfold Lib.bytesOf intsOf
  rw [List.map_map]
  conv => rhs; rw [← List.map_id x.data.toList]
  apply List.map_congr_left
  intro a _
  simp
theorem intsOf_rng (x : ByteArray) : ∀ y ∈ intsOf x, 0 ≤ y ∧ y < 256 := by
  intro y hy
  unfold intsOf at hy
  obtain ⟨a, _, rfl⟩ := List.mem_map.1 hy
  have := a.toNat_lt
  omega

theorem index_any (a1 a2 : Addr) (n c1 k c2 : Nat) (x y : ByteArray) (m : Int) (w : World) (hn : x.size = n) (hk : y.size = k)
    (h1 : ∀ i, i < n → w.cell? (a1.add i) = some (.int .u8 (byt x i))) (h2 : ∀ i, i < k → w.cell? (a2.add i) = some (.int .u8 (byt y i))) (hcap : n ≤ c1) (hs : n < 4294967281) (hk63 : k ≤ 9223372036854775807)
    (hm : w.cell? ⟨0, 0, none⟩ = some (.int .i64 m)) :
    Calls Try.prog 30 #[.slice (some a1) n c1, .slice (some a2) k c2] w fun e w' => e = .returned (.int .i64 (Lib.index x.data.toList y.data.toList)) ∧ ∃ q, w' = w.drewN q := by
  have h := Any.bytes_Index_at Try.laysM185.ton185 a1 a2 n c1 k c2 (intsOf x) (intsOf y) m w (by rw [intsOf_len, hn]) (by rw [intsOf_len, hk]) (intsOf_rng x) (intsOf_rng y)
    (fun i hi => by rw [h1 i hi, intsOf_get]) (fun i hi => by rw [h2 i hi, intsOf_get]) hcap hs hk63 hm
  rw [intsOf_bytes, intsOf_bytes] at h
  exact h

/-- Does e stand at i? -/
def occ (s e : ByteArray) (i : Nat) : Bool := (s.extract i (i + e.size)).toList == e.toList
def upGo (s e : ByteArray) : Nat → Nat → Option Nat
  | 0, _ => none
  | f + 1, i => if i + e.size ≤ s.size then (if occ s e i = true then some (i + e.size) else upGo s e f (i + 1)) else none
def upAt (s e : ByteArray) (i : Nat) : Option Nat := upGo s e (s.size + 1 - i) i
def upToV (s : ByteArray) (i : Nat) (kd : Int) (e : ByteArray) : Mk :=
  match upAt s e i with
  | some z => ⟨kd, z, ⟨#[]⟩, [], false, true⟩
  | none => ⟨kd, s.size, ⟨#[]⟩, [], false, false⟩

theorem upGo_none (s e : ByteArray) : ∀ f i, (∀ j, i ≤ j → j + e.size ≤ s.size → occ s e j = false) → upGo s e f i = none
  | 0, i, _ => rfl
  | f + 1, i, h => by
    unfold upGo
    split
    · rename_i hi
      rw [if_neg (by rw [h i (Nat.le_refl _) hi]; decide)]
      exact upGo_none s e f (i + 1) fun j hj => h j (by omega)
    · rfl
theorem upGo_some (s e : ByteArray) (z : Nat) (hz : z + e.size ≤ s.size) (ho : occ s e z = true) : ∀ f i, i ≤ z → z < i + f → (∀ j, i ≤ j → j < z → occ s e j = false) → upGo s e f i = some (z + e.size)
  | 0, i, h1, h2, _ => by omega
  | f + 1, i, h1, h2, h => by
    unfold upGo
    rw [if_pos (by omega)]
    by_cases he : i = z
    · subst he
      rw [if_pos ho]
    · rw [if_neg (by rw [h i (Nat.le_refl _) (by omega)]; decide)]
      exact upGo_some s e z hz ho f (i + 1) (by omega) (by omega) fun j hj => h j (by omega)

theorem occ_at (s e : ByteArray) (i j : Nat) (hj : i + j + e.size ≤ s.size) : occ s e (i + j) = Lib.occAt (s.extract i s.size).data.toList e.data.toList j := by
  unfold occ
  rw [← Lib.occ_of_piece s e (i + j) hj]
  unfold Lib.occAt
  rw [Lib.extract_to_end, List.drop_drop]

/-- What the search of the library tells. -/
theorem upAt_index (s e : ByteArray) (i : Nat) (hi : i ≤ s.size) (he : 0 < e.size) :
    (Lib.index (s.extract i s.size).data.toList e.data.toList = -1 ∧ upAt s e i = none) ∨
    (∃ k : Nat, Lib.index (s.extract i s.size).data.toList e.data.toList = k ∧ upAt s e i = some (i + k + e.size) ∧ i + k + e.size ≤ s.size) := by
  have hl : (s.extract i s.size).data.toList.length = s.size - i := by
    rw [Lib.extract_to_end]; simp
  rcases Lib.index_spec (s.extract i s.size).data.toList e.data.toList with ⟨h1, h2⟩ | ⟨k, h1, h2, h3, h4⟩
  · refine .inl ⟨h1, upGo_none s e _ _ fun j hj hje => ?_⟩
    obtain ⟨d, rfl⟩ : ∃ d, j = i + d := ⟨j - i, by omega⟩
    rw [occ_at s e i d hje]
    exact h2 d (by omega)
  · have hk : i + k + e.size ≤ s.size := by
      unfold Lib.occAt at h3
      have := List.IsPrefix.length_le (List.isPrefixOf_iff_prefix.1 h3)
      rw [List.length_drop, hl] at this
      have h5 : e.data.toList.length = e.size := by simp
      omega
    refine .inr ⟨k, h1, ?_, hk⟩
    exact upGo_some s e (i + k) hk (by rw [occ_at s e i k hk]; exact h3) _ _ (by omega) (by omega) fun j hj hjk => by
      obtain ⟨d, rfl⟩ : ∃ d, j = i + d := ⟨j - i, by omega⟩
      rw [occ_at s e i d (by omega)]
      exact h4 d (by omega)
end Go.Proofs.Ytpkbmgpbagdalaa
