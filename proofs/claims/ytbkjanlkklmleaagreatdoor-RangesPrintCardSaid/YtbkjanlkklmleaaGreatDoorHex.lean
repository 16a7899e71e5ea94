/- Digits of sixteen: the plain law. Of no program. -/
import Derived.Test.YtbkjanlkklmleaaGreatDoorByt
namespace Go.Proofs.YtbkjanlkklmleaaGreatDoor
set_option linter.unusedVariables false

/-- Digits of sixteen. -/
def dg (k : Nat) : UInt8 := UInt8.ofNat (if k < 10 then 48 + k else 87 + k)
def hexD (u : Nat) : List UInt8 := if h : u < 16 then [dg u] else hexD (u / 16) ++ [dg (u % 16)]
decreasing_by omega
def hexB (u : Nat) : ByteArray := ⟨(hexD u).toArray⟩
/-- Is a byte a small digit of sixteen, and which. -/
def hxP (c : UInt8) : Bool := (decide (48 ≤ c.toNat) && decide (c.toNat ≤ 57)) || (decide (97 ≤ c.toNat) && decide (c.toNat ≤ 102))
def hxV (c : UInt8) : Int := if c.toNat ≤ 57 then (c.toNat : Int) - 48 else (c.toNat : Int) - 87
theorem dg_hx : ∀ k : Fin 16, hxP (dg k.val) = true ∧ hxV (dg k.val) = k.val := by decide
theorem hexD_hx : ∀ (u : Nat), ∀ b ∈ hexD u, hxP b = true := by
  intro u
  induction u using Nat.strongRecOn with
  | _ u ih =>
    intro b hb
    rw [hexD] at hb
    split at hb
    · rename_i h
      rw [List.mem_singleton.1 hb]
      exact (dg_hx ⟨u, h⟩).1
    · rcases List.mem_append.1 hb with h | h
      · exact ih (u / 16) (by omega) b h
      · rw [List.mem_singleton.1 h]
        exact (dg_hx ⟨u % 16, Nat.mod_lt _ (by decide)⟩).1
theorem hexD_sum : ∀ (u : Nat), (hexD u).foldl (fun (n : Int) b => 16 * n + hxV b) 0 = u := by
  intro u
  induction u using Nat.strongRecOn with
  | _ u ih =>
    rw [hexD]
    split
    · rename_i h
      show 16 * 0 + hxV _ = _
      rw [(dg_hx ⟨u, h⟩).2]
      show 16 * 0 + (u : Int) = _
      omega
    · rw [List.foldl_append, ih (u / 16) (by omega)]
      show 16 * _ + hxV _ = _
      rw [(dg_hx ⟨u % 16, Nat.mod_lt _ (by decide)⟩).2]
      show 16 * ((u / 16 : Nat) : Int) + ((u % 16 : Nat) : Int) = _
      omega
theorem hexD_len : ∀ (k u : Nat), 1 ≤ k → u < 16 ^ k → (hexD u).length ≤ k := by
  intro k
  induction k with
  | zero => intro u h; omega
  | succ k ih =>
    intro u _ hu
    rw [hexD]
    split
    · simp
    · rename_i h
      rw [List.length_append, List.length_singleton]
      have hk : 1 ≤ k := by
        rcases Nat.eq_zero_or_pos k with h0 | h0
        · subst h0; exact absurd hu h
        · exact h0
      have := ih (u / 16) hk (by rw [Nat.pow_succ] at hu; omega)
      omega
theorem hexD_pos (u : Nat) : 1 ≤ (hexD u).length := by
  rw [hexD]
  split <;> simp
theorem hexB_size (u : Nat) : (hexB u).size = (hexD u).length := by simp [hexB, ByteArray.size]
def mkB (l : List UInt8) : ByteArray := ⟨l.toArray⟩
theorem mkB_append (l k : List UInt8) : mkB l ++ mkB k = mkB (l ++ k) := by
  apply ByteArray.ext
  simp [mkB, ByteArray.data_append]
theorem mkB_size (l : List UInt8) : (mkB l).size = l.length := by simp [mkB, ByteArray.size]
theorem mkB_inj {l k : List UInt8} (h : mkB l = mkB k) : l = k := by
  have := congrArg (fun b : ByteArray => b.data.toList) h
  simpa [mkB] using this
/-- A number's text of at least four digits. -/
def hex4D (u : Nat) : List UInt8 := List.replicate (4 - (hexD u).length) 48 ++ hexD u
theorem hex4D_hx (u : Nat) : ∀ b ∈ hex4D u, hxP b = true := by
  intro b hb
  rcases List.mem_append.1 hb with h | h
  · rw [(List.mem_replicate.1 h).2]; decide
  · exact hexD_hx u b h
theorem hex4D_sum (u : Nat) : (hex4D u).foldl (fun (n : Int) b => 16 * n + hxV b) 0 = u := by
  unfold hex4D
  rw [List.foldl_append]
  have : ∀ k, (List.replicate k (48 : UInt8)).foldl (fun (n : Int) b => 16 * n + hxV b) 0 = 0 := by
    intro k
    induction k with
    | zero => rfl
    | succ k ih =>
      rw [List.replicate_succ, List.foldl_cons]
      exact ih
  rw [this]
  exact hexD_sum u
theorem hex4D_pos (u : Nat) : 4 ≤ (hex4D u).length := by
  unfold hex4D
  rw [List.length_append, List.length_replicate]
  omega
theorem hex4D_len (u : Nat) (h : u < 16777216) : (hex4D u).length ≤ 6 := by
  have := hexD_len 6 u (by decide) (by show _ < 16777216; omega)
  unfold hex4D
  rw [List.length_append, List.length_replicate]
  omega
end Go.Proofs.YtbkjanlkklmleaaGreatDoor
