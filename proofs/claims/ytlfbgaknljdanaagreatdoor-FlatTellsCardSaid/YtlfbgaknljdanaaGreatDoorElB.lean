/- Chapter 21: what a name is, by seven Bools: plain laws. -/
import Derived.Test.YtlfbgaknljdanaaGreatDoorElA
namespace Go.Proofs.YtlfbgaknljdanaaGreatDoor
open Go.RowKit Go.Maps
open Go.Lib (hid)
set_option linter.unusedVariables false
set_option maxRecDepth 100000

def b2 (b : Bool) (k : Int) : Int := if b = true then k else 0
def v7 (a b c d e f g : Bool) : Int := b2 a 1 + b2 b 2 + b2 c 4 + b2 d 8 + b2 e 16 + b2 f 32 + b2 g 64
def valOf (b : Nat → Bool) : Int := v7 (b 0) (b 1) (b 2) (b 3) (b 4) (b 5) (b 6)
theorem or0 : ∀ a b c d e f g : Bool, bits .or .i64 (v7 a b c d e f g) 1 = v7 true b c d e f g := by decide +kernel
theorem or1 : ∀ a b c d e f g : Bool, bits .or .i64 (v7 a b c d e f g) 2 = v7 a true c d e f g := by decide +kernel
theorem or2 : ∀ a b c d e f g : Bool, bits .or .i64 (v7 a b c d e f g) 4 = v7 a b true d e f g := by decide +kernel
theorem or3 : ∀ a b c d e f g : Bool, bits .or .i64 (v7 a b c d e f g) 8 = v7 a b c true e f g := by decide +kernel
theorem or4 : ∀ a b c d e f g : Bool, bits .or .i64 (v7 a b c d e f g) 16 = v7 a b c d true f g := by decide +kernel
theorem or5 : ∀ a b c d e f g : Bool, bits .or .i64 (v7 a b c d e f g) 32 = v7 a b c d e true g := by decide +kernel
theorem or6 : ∀ a b c d e f g : Bool, bits .or .i64 (v7 a b c d e f g) 64 = v7 a b c d e f true := by decide +kernel
theorem or_bit (b : Nat → Bool) (k : Nat) (hk : k < 7) : bits .or .i64 (valOf b) (bitI k) = valOf fun i => b i || i == k := by
  rcases (by omega : k = 0 ∨ k = 1 ∨ k = 2 ∨ k = 3 ∨ k = 4 ∨ k = 5 ∨ k = 6) with rfl | rfl | rfl | rfl | rfl | rfl | rfl
  · show bits .or .i64 (v7 _ _ _ _ _ _ _) 1 = _
    rw [or0]; simp [valOf]
  · show bits .or .i64 (v7 _ _ _ _ _ _ _) 2 = _
    rw [or1]; simp [valOf]
  · show bits .or .i64 (v7 _ _ _ _ _ _ _) 4 = _
    rw [or2]; simp [valOf]
  · show bits .or .i64 (v7 _ _ _ _ _ _ _) 8 = _
    rw [or3]; simp [valOf]
  · show bits .or .i64 (v7 _ _ _ _ _ _ _) 16 = _
    rw [or4]; simp [valOf]
  · show bits .or .i64 (v7 _ _ _ _ _ _ _) 32 = _
    rw [or5]; simp [valOf]
  · show bits .or .i64 (v7 _ _ _ _ _ _ _) 64 = _
    rw [or6]; simp [valOf]
theorem valOf_bd (b : Nat → Bool) : 0 ≤ valOf b ∧ valOf b ≤ 127 := by
  unfold valOf v7 b2
  constructor
  · repeat' split
    all_goals omega
  · repeat' split
    all_goals omega
theorem valOf_congr {a b : Nat → Bool} (h : ∀ i, i < 7 → a i = b i) : valOf a = valOf b := by
  unfold valOf
  rw [h 0 (by decide), h 1 (by decide), h 2 (by decide), h 3 (by decide), h 4 (by decide), h 5 (by decide), h 6 (by decide)]
/-- What a name is, of the lists that have come, and of the first names of one that is coming. -/
def memB (x : ByteArray) (l : List ByteArray) : Bool := l.any fun y => decide (y = x)
theorem memB_next {x : ByteArray} {l : List ByteArray} {j : Nat} (hj : j < l.length) : memB x (l.take (j + 1)) = (memB x (l.take j) || decide (l[j] = x)) := by
  unfold memB
  rw [List.take_add_one, List.getElem?_eq_getElem hj, List.any_append]
  simp
def inN (k : Nat) (x : ByteArray) : Bool := memB x (elN k)
def bitsJ (bp : Nat → Bool) (k j : Nat) (x : ByteArray) (i : Nat) : Bool := (bp i && inN i x) || (i == k && memB x ((elN k).take j))
def elV (x : ByteArray) : Int := valOf fun i => inN i x
theorem bitsJ_zero (bp : Nat → Bool) (k : Nat) (x : ByteArray) : valOf (bitsJ bp k 0 x) = valOf fun i => bp i && inN i x := valOf_congr fun i _ => by
  unfold bitsJ
  rw [List.take_zero]
  simp [memB]
theorem bitsJ_end {bp : Nat → Bool} {k : Nat} (x : ByteArray) : valOf (bitsJ bp k (elN k).length x) = valOf fun i => (bp i || i == k) && inN i x := valOf_congr fun i _ => by
  unfold bitsJ inN
  rw [List.take_length]
  by_cases h : i = k
  · subst h
    cases bp i <;> simp
  · have : (i == k) = false := by simpa using h
    rw [this]
    simp
theorem bitsJ_hit {bp : Nat → Bool} {k j : Nat} (hk : k < 7) (hj : j < (elN k).length) : bits .or .i64 (valOf (bitsJ bp k j (elN k)[j])) (bitI k) = valOf (bitsJ bp k (j + 1) (elN k)[j]) := by
  rw [or_bit _ k hk]
  refine valOf_congr fun i _ => ?_
  unfold bitsJ
  by_cases h : i = k
  · subst h
    rw [memB_next hj, decide_eq_true rfl]
    simp
  · have : (i == k) = false := by simpa using h
    rw [this]
    simp
theorem bitsJ_miss {bp : Nat → Bool} {k j : Nat} (hj : j < (elN k).length) {x : ByteArray} (hx : x ≠ (elN k)[j]) : bitsJ bp k (j + 1) x = bitsJ bp k j x := by
  funext i
  unfold bitsJ
  rw [memB_next hj, decide_eq_false (fun e => hx e.symm), Bool.or_false]
theorem strL_inj {x y : ByteArray} (h : strL x = strL y) : x = y := by
  injection h with h
  exact ByteArray.ext (Array.toList_inj.1 h)
theorem elD_is : elD = .map [(intL 1, .lit (strL elT0)), (intL 2, .lit (strL elT1)), (intL 4, .lit (strL elT2)), (intL 8, .lit (strL elT3)), (intL 16, .lit (strL elT4)), (intL 32, .lit (strL elT5)), (intL 64, .lit (strL elT6))] := by kernel_rfl
theorem elD_size : Maps.size elD = 7 := by rw [elD_is]; rfl
theorem sameKey_eq {a b : Lit} (h : a.sameKey b = true) : a = b := by
  by_cases e : a = b
  · exact e
  · rw [sameKey_ne e] at h
    cases h
theorem elD_has {kl : Lit} (h : Maps.has elD kl = true) : ∃ k, k < 7 ∧ kl = intL (bitI k) := by
  rw [elD_is, has_eq] at h
  obtain ⟨p, hp, hs⟩ := List.any_eq_true.1 h
  have he := sameKey_eq hs
  simp only [List.mem_cons, List.not_mem_nil, or_false] at hp
  rcases hp with rfl | rfl | rfl | rfl | rfl | rfl | rfl
  · exact ⟨0, by decide, he.symm⟩
  · exact ⟨1, by decide, he.symm⟩
  · exact ⟨2, by decide, he.symm⟩
  · exact ⟨3, by decide, he.symm⟩
  · exact ⟨4, by decide, he.symm⟩
  · exact ⟨5, by decide, he.symm⟩
  · exact ⟨6, by decide, he.symm⟩
theorem elD_has_bit : ∀ k : Fin 7, Maps.has elD (intL (bitI k.val)) = true := by
  rw [elD_is]
  intro k
  match k with
  | ⟨0, _⟩ => rfl
  | ⟨1, _⟩ => rfl
  | ⟨2, _⟩ => rfl
  | ⟨3, _⟩ => rfl
  | ⟨4, _⟩ => rfl
  | ⟨5, _⟩ => rfl
  | ⟨6, _⟩ => rfl
theorem elD_at (k : Fin 7) : elD.atKey (intL (bitI k.val)) (.lit (strL ⟨#[]⟩)) = .lit (strL (elT k.val)) := by
  match k with
  | ⟨0, _⟩ => show elD.atKey (intL (bitI 0)) (.lit (strL ⟨#[]⟩)) = .lit (strL elT0); kernel_rfl
  | ⟨1, _⟩ => show elD.atKey (intL (bitI 1)) (.lit (strL ⟨#[]⟩)) = .lit (strL elT1); kernel_rfl
  | ⟨2, _⟩ => show elD.atKey (intL (bitI 2)) (.lit (strL ⟨#[]⟩)) = .lit (strL elT2); kernel_rfl
  | ⟨3, _⟩ => show elD.atKey (intL (bitI 3)) (.lit (strL ⟨#[]⟩)) = .lit (strL elT3); kernel_rfl
  | ⟨4, _⟩ => show elD.atKey (intL (bitI 4)) (.lit (strL ⟨#[]⟩)) = .lit (strL elT4); kernel_rfl
  | ⟨5, _⟩ => show elD.atKey (intL (bitI 5)) (.lit (strL ⟨#[]⟩)) = .lit (strL elT5); kernel_rfl
  | ⟨6, _⟩ => show elD.atKey (intL (bitI 6)) (.lit (strL ⟨#[]⟩)) = .lit (strL elT6); kernel_rfl
theorem elT_fields (k : Fin 7) : Lib.fields (elT k.val).data.toList = (elN k.val).map (fun x => x.data.toList) := by
  match k with
  | ⟨0, _⟩ => exact elF0
  | ⟨1, _⟩ => exact elF1
  | ⟨2, _⟩ => exact elF2
  | ⟨3, _⟩ => exact elF3
  | ⟨4, _⟩ => exact elF4
  | ⟨5, _⟩ => exact elF5
  | ⟨6, _⟩ => exact elF6
theorem elT_ascii (k : Fin 7) : ∀ b ∈ (elT k.val).data.toList, b.toNat < 128 := by
  have : ∀ k : Fin 7, ((elT k.val).data.toList.all fun b => decide (b.toNat < 128)) = true := by decide +kernel
  intro b hb
  exact of_decide_eq_true (List.all_eq_true.1 (this k) b hb)
theorem elT_size (k : Fin 7) : (elT k.val).size ≤ 1000 := by
  have : ∀ k : Fin 7, decide ((elT k.val).size ≤ 1000) = true := by decide +kernel
  exact of_decide_eq_true (this k)
theorem elN_len (k : Fin 7) : (elN k.val).length ≤ 50 := by
  have : ∀ k : Fin 7, decide ((elN k.val).length ≤ 50) = true := by decide +kernel
  exact of_decide_eq_true (this k)
theorem elN_size (k : Nat) (x : ByteArray) (h : x ∈ elN k) : x.size ≤ 20 := by
  by_cases hk : k < 7
  · have : ∀ k : Fin 7, ((elN k.val).all fun x => decide (x.size ≤ 20)) = true := by decide +kernel
    exact of_decide_eq_true (List.all_eq_true.1 (this ⟨k, hk⟩) x h)
  · unfold elN at h
    split at h
    all_goals first | (exfalso; omega) | cases h
theorem bitI_inj {j k : Nat} (hj : j < 7) (hk : k < 7) (h : bitI j = bitI k) : j = k := by
  have : ∀ j k : Fin 7, bitI j.val = bitI k.val → j = k := by decide
  have := this ⟨j, hj⟩ ⟨k, hk⟩ h
  exact congrArg Fin.val this
theorem bitI_bd (k : Fin 7) : 1 ≤ bitI k.val ∧ bitI k.val ≤ 64 := by
  have : ∀ k : Fin 7, 1 ≤ bitI k.val ∧ bitI k.val ≤ 64 := by decide
  exact this k
end Go.Proofs.YtlfbgaknljdanaaGreatDoor
