/- Chapter 02: a set's text, read: the plain law. -/
import Derived.Test.YtbkjanlkklmleaaGreatDoorRgQ
import Derived.Test.YtbkjanlkklmleaaGreatDoorPiP
import Derived.Lib.IndexMore
import Derived.Lib.IndexLaws
import Derived.Lib.IndexBytes
import Derived.Lib.Split
namespace Go.Proofs.YtbkjanlkklmleaaGreatDoor
open Go.RowKit
set_option linter.unusedVariables false

theorem hx_dx : ∀ k : Fin 256, hxP (UInt8.ofNat k.val) = true → dxP (k.val : Int) = true ∧ hxV (UInt8.ofNat k.val) = dxV (k.val : Int) ∧ UInt8.ofNat k.val ≠ 44 ∧ UInt8.ofNat k.val ≠ 45 := by decide +kernel
theorem hx_dxB {b : UInt8} (h : hxP b = true) : dxP (b.toNat : Int) = true ∧ hxV b = dxV (b.toNat : Int) ∧ b ≠ 44 ∧ b ≠ 45 := by
  have := hx_dx ⟨b.toNat, b.toNat_lt⟩
  simp only [UInt8.ofNat_toNat] at this
  exact this h
def ivL (l : List UInt8) : List Int := l.map fun b => (b.toNat : Int)
theorem ints_mkL (l : List UInt8) : intsOf (mkB l) = ivL l := by simp [intsOf, mkB, ivL]
theorem hx_fold : ∀ (l : List UInt8) (a : Int), (∀ b ∈ l, hxP b = true) → (ivL l).foldl (fun n c => n * 16 + dxV c) a = l.foldl (fun (n : Int) b => 16 * n + hxV b) a
  | [], a, _ => rfl
  | b :: l, a, h => by
    have hb := (hx_dxB (h b (List.mem_cons_self ..))).2.1
    show (ivL l).foldl (fun n c => n * 16 + dxV c) (a * 16 + dxV (b.toNat : Int)) = l.foldl _ (16 * a + hxV b)
    rw [hx_fold l _ fun c hc => h c (List.mem_cons_of_mem _ hc), hb, Int.mul_comm a 16]
theorem byt_mkL (l : List UInt8) (i : Nat) (h : i < l.length) : byt (mkB l) i = ((l[i]).toNat : Int) := by
  unfold byt mkB
  simp [h]
theorem good_hex4 (u : Nat) (h : u < 16777216) : goodX (mkB (hex4D u)) ∧ dxN (intsOf (mkB (hex4D u))) = u := by
  refine ⟨⟨by rw [mkB_size]; have := hex4D_pos u; omega, by rw [mkB_size]; have := hex4D_len u h; omega, fun i hi => ?_⟩, ?_⟩
  · rw [mkB_size] at hi
    rw [byt_mkL _ _ hi]
    exact (hx_dxB (hex4D_hx u _ (List.getElem_mem hi))).1
  · rw [ints_mkL]
    unfold dxN
    rw [hx_fold _ _ (hex4D_hx u), hex4D_sum]
theorem ib_none {l : List UInt8} {c : UInt8} (h : ∀ b ∈ l, b ≠ c) : Lib.indexByte l c = -1 := by
  have hge := Lib.indexByte_ge l c
  rcases Int.lt_or_le (Lib.indexByte l c) 0 with h0 | h0
  · omega
  · obtain ⟨o, ho⟩ : ∃ o : Nat, Lib.indexByte l c = o := ⟨(Lib.indexByte l c).toNat, by omega⟩
    have := (Lib.indexByte_some ho).1
    exact absurd rfl (h c (List.mem_of_getElem? this))
theorem ib_at {l k : List UInt8} {c : UInt8} (h : ∀ b ∈ l, b ≠ c) : Lib.indexByte (l ++ c :: k) c = l.length := by
  have hge := Lib.indexByte_ge (l ++ c :: k) c
  rcases Int.lt_or_le (Lib.indexByte (l ++ c :: k) c) 0 with h0 | h0
  · have := Lib.indexByte_none (show Lib.indexByte (l ++ c :: k) c = -1 by omega) l.length
    exact absurd (by simp) this
  · obtain ⟨o, ho⟩ : ∃ o : Nat, Lib.indexByte (l ++ c :: k) c = o := ⟨(Lib.indexByte (l ++ c :: k) c).toNat, by omega⟩
    obtain ⟨h1, h2⟩ := Lib.indexByte_some ho
    rw [ho]
    congr 1
    rcases Nat.lt_trichotomy o l.length with q | q | q
    · rw [List.getElem?_append_left q] at h1
      exact absurd rfl (h c (List.mem_of_getElem? h1))
    · exact q
    · exact absurd (by simp) (h2 l.length q)
theorem item_ne (x : Rg) : ∀ b ∈ itemD x, b ≠ 44 := by
  intro b hb
  unfold itemD at hb
  rcases List.mem_append.1 hb with hb | hb
  · exact (hx_dxB (hex4D_hx _ b hb)).2.2.1
  · split at hb
    · cases hb
    · rcases List.mem_cons.1 hb with rfl | hb
      · decide
      · exact (hx_dxB (hex4D_hx _ b hb)).2.2.1
theorem count_print : ∀ (l : List Rg) (x : Rg) (f : Nat), l.length < f → Lib.countFrom [44] f (itemD x ++ tailD l) = l.length
  | [], x, f, hf => by
    obtain ⟨g, rfl⟩ : ∃ g, f = g + 1 := ⟨f - 1, by simp at hf; omega⟩
    rw [tailD, List.append_nil, Lib.countFrom, Lib.index_one, ib_none (item_ne x)]
    rfl
  | y :: l, x, f, hf => by
    obtain ⟨g, rfl⟩ : ∃ g, f = g + 1 := ⟨f - 1, by simp at hf; omega⟩
    rw [tailD, Lib.countFrom, Lib.index_one, ib_at (item_ne x)]
    have hn : ¬ (((itemD x).length : Int) == -1) = true := fun e => by have := beq_iff_eq.1 e; omega
    rw [if_neg hn]
    have hd : (itemD x ++ 44 :: (itemD y ++ tailD l)).drop ((((itemD x).length : Int)).toNat + [(44 : UInt8)].length) = itemD y ++ tailD l := by
      rw [Int.toNat_natCast, List.drop_append, List.length_singleton]
      simp
    rw [hd, count_print l y g (by simpa using hf), List.length_cons]
    omega
theorem split_print : ∀ (l : List Rg) (x : Rg), Lib.splitK [44] 0 l.length (itemD x ++ tailD l) = (x :: l).map itemD
  | [], x => by rw [tailD, List.append_nil]; rfl
  | y :: l, x => by
    rw [tailD, List.length_cons, Lib.splitK, Lib.index_one, ib_at (item_ne x)]
    have hn : ¬ (((itemD x).length : Int) == -1) = true := fun e => by have := beq_iff_eq.1 e; omega
    rw [if_neg hn]
    have hd : (itemD x ++ 44 :: (itemD y ++ tailD l)).drop ((((itemD x).length : Int)).toNat + [(44 : UInt8)].length) = itemD y ++ tailD l := by
      rw [Int.toNat_natCast, List.drop_append, List.length_singleton]
      simp
    have ht : (itemD x ++ 44 :: (itemD y ++ tailD l)).take ((((itemD x).length : Int)).toNat + 0) = itemD x := by
      rw [Int.toNat_natCast, Nat.add_zero, List.take_append, List.take_length]
      simp
    rw [hd, ht, split_print l y, List.map_cons]
    rfl
/-- The pieces of a right list's text. -/
theorem pieces_print (x : Rg) (l : List Rg) : Lib.splitK [44] 0 (Lib.count (printD (x :: l)) [44]) (printD (x :: l)) = (x :: l).map itemD := by
  have hc : Lib.count (printD (x :: l)) [44] = l.length := by
    unfold Lib.count
    refine count_print l x _ ?_
    have : ∀ k : List Rg, k.length ≤ (tailD k).length := by
      intro k
      induction k with
      | nil => exact Nat.le_refl _
      | cons y k ih => rw [tailD, List.length_cons, List.length_cons, List.length_append]; omega
    have := this l
    rw [printD, List.length_append]
    omega
  rw [hc]
  exact split_print l x
/-- What a piece is cut to. -/
theorem cut_item (x : Rg) : Lib.cut (itemD x) [45] = if x.1 = x.2 then (hex4D x.1.toNat, [], false) else (hex4D x.1.toNat, hex4D x.2.toNat, true) := by
  have hne : ∀ b ∈ hex4D x.1.toNat, b ≠ 45 := fun b hb => (hx_dxB (hex4D_hx _ b hb)).2.2.2
  unfold Lib.cut itemD
  rw [Lib.index_one]
  by_cases h : x.1 = x.2
  · rw [if_pos h, if_pos h, List.append_nil, ib_none hne, if_neg (by decide)]
  · rw [if_neg h, if_neg h, ib_at hne, if_pos (by omega), Int.toNat_natCast]
    congr 1
    · rw [List.take_append, List.take_length]
      simp
    · congr 1
      rw [List.drop_append, List.length_singleton]
      simp
end Go.Proofs.YtbkjanlkklmleaaGreatDoor
