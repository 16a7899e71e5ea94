/- Chapter 17: text between sequences is left: the plain law. -/
import Derived.Test.YtlopigkaibkblaaDoorAnS
import Derived.Test.YtlopigkaibkblaaDoorAnW1
namespace Go.Proofs.YtlopigkaibkblaaDoor
set_option linter.unusedVariables false

def rightR (r : Int) : Bool := decide (0 ≤ r) && decide (r ≤ 1114111) && (decide (r < 55296) || decide (57343 < r))
def putI0 (r : Int) : List Int :=
  if r < 128 then [r] else if r < 2048 then [192 + r / 64, 128 + r % 64] else if r < 65536 then [224 + r / 4096, 128 + r / 64 % 64, 128 + r % 64]
  else [240 + r / 262144, 128 + r / 4096 % 64, 128 + r / 64 % 64, 128 + r % 64]
/-- The document's bytes of a scalar. -/
def putI (r : Int) : List Int := putI0 (if rightR r then r else 65533)
def putB (r : Int) : ByteArray := ofInts (putI r)
theorem putI0_mem {r : Int} (h0 : 0 ≤ r) (h1 : r ≤ 1114111) : ∀ y ∈ putI0 r, (0 ≤ y ∧ y ≤ 255) ∧ (y = 27 → r = 27) := by
  unfold putI0
  split
  · intro y hy
    rw [List.mem_singleton.1 hy]
    exact ⟨by omega, id⟩
  · split
    · intro y hy
      simp only [List.mem_cons, List.not_mem_nil, or_false] at hy
      rcases hy with rfl | rfl <;> exact ⟨by omega, fun h => by omega⟩
    · split
      · intro y hy
        simp only [List.mem_cons, List.not_mem_nil, or_false] at hy
        rcases hy with rfl | rfl | rfl <;> exact ⟨by omega, fun h => by omega⟩
      · intro y hy
        simp only [List.mem_cons, List.not_mem_nil, or_false] at hy
        rcases hy with rfl | rfl | rfl | rfl <;> exact ⟨by omega, fun h => by omega⟩
theorem putI_mem (r : Int) : ∀ y ∈ putI r, (0 ≤ y ∧ y ≤ 255) ∧ (y = 27 → r = 27) := by
  unfold putI
  intro y hy
  cases hr : rightR r
  · rw [hr] at hy
    have := putI0_mem (r := 65533) (by decide) (by decide) y hy
    exact ⟨this.1, fun h => absurd (this.2 h) (by decide)⟩
  · rw [hr] at hy
    have hb : 0 ≤ r ∧ r ≤ 1114111 := by simp [rightR] at hr; omega
    exact putI0_mem hb.1 hb.2 y hy
theorem putI_len (r : Int) : (putI r).length ≤ 4 := by
  unfold putI putI0
  generalize (if rightR r = true then r else 65533) = q
  split
  · simp
  · split
    · simp
    · split <;> simp
theorem putB_size (r : Int) : (putB r).size ≤ 4 := by
  unfold putB
  rw [ofInts_size]
  exact putI_len r
theorem putB_clean {r : Int} (h : r ≠ 27) : ∀ j, j < (putB r).size → byt (putB r) j ≠ 27 := by
  intro j hj
  unfold putB at hj ⊢
  rw [ofInts_size] at hj
  rw [ofInts_byt _ (fun y hy => (putI_mem r y hy).1) j hj]
  intro e
  refine h ((putI_mem r _ ?_).2 e)
  rw [List.getD_eq_getElem?_getD, List.getElem?_eq_getElem hj]
  exact List.getElem_mem hj

def textB : List Int → ByteArray
  | [] => ⟨#[]⟩
  | r :: l => putB r ++ textB l
def seqB (W : ByteArray) : List Int → ByteArray
  | [] => ⟨#[]⟩
  | r :: l => putB r ++ (W ++ seqB W l)
theorem textB_snoc (r : Int) : ∀ l, textB (l ++ [r]) = textB l ++ putB r
  | [] => by
    show putB r ++ ⟨#[]⟩ = ⟨#[]⟩ ++ putB r
    rw [append_empty, empty_append]
  | x :: l => by
    show putB x ++ textB (l ++ [r]) = (putB x ++ textB l) ++ putB r
    rw [textB_snoc r l, append_assoc3]
theorem seqB_snoc (W : ByteArray) (r : Int) : ∀ l, seqB W (l ++ [r]) = (seqB W l ++ putB r) ++ W
  | [] => by
    show putB r ++ (W ++ ⟨#[]⟩) = (⟨#[]⟩ ++ putB r) ++ W
    rw [append_empty, empty_append]
  | x :: l => by
    show putB x ++ (W ++ seqB W (l ++ [r])) = ((putB x ++ (W ++ seqB W l)) ++ putB r) ++ W
    rw [seqB_snoc W r l]
    simp only [append_assoc3]
theorem textB_size : ∀ l, (textB l).size ≤ 4 * l.length
  | [] => Nat.le_refl _
  | x :: l => by
    show (putB x ++ textB l).size ≤ _
    rw [ByteArray.size_append]
    have := putB_size x
    have := textB_size l
    simp only [List.length_cons]
    omega
theorem seqB_size (W : ByteArray) : ∀ l, (seqB W l).size ≤ (4 + W.size) * l.length
  | [] => Nat.zero_le _
  | x :: l => by
    show (putB x ++ (W ++ seqB W l)).size ≤ _
    rw [ByteArray.size_append, ByteArray.size_append]
    have := putB_size x
    have := seqB_size W l
    simp only [List.length_cons, Nat.mul_add, Nat.mul_one]
    omega

theorem ext_right (x y : ByteArray) (i : Nat) : (x ++ y).extract (x.size + i) (x ++ y).size = y.extract i y.size := by
  apply ext_byt
  · rw [ByteArray.size_extract, ByteArray.size_extract, ByteArray.size_append]
    omega
  · intro k hk
    rw [ByteArray.size_extract, ByteArray.size_append] at hk
    rw [byt_extract _ _ _ k (by rw [ByteArray.size_append]; omega) (Nat.le_refl _), byt_extract _ _ _ k (by omega) (Nat.le_refl _), Nat.add_assoc, byt_right]
theorem read_shift (x y : ByteArray) (i : Nat) : readE (x ++ y) ((x.size + i : Nat) : Int) = readE y i := by
  unfold readE
  by_cases h : 0 ≤ (i : Int) ∧ (i : Int) < y.size ∧ byt y ((i : Int)).toNat = 27
  · rw [if_pos h]
    obtain ⟨h1, h2, h3⟩ := h
    rw [Int.toNat_natCast] at h3
    rw [if_pos ⟨by omega, by rw [ByteArray.size_append]; omega, by rw [Int.toNat_natCast, byt_right]; exact h3⟩, Int.toNat_natCast, Int.toNat_natCast, ext_right]
  · rw [if_neg h, if_neg]
    rintro ⟨h1, h2, h3⟩
    rw [Int.toNat_natCast, byt_right] at h3
    rw [ByteArray.size_append] at h2
    exact h ⟨by omega, by omega, by rw [Int.toNat_natCast]; exact h3⟩
theorem strip_shift (x y : ByteArray) : ∀ (f i : Nat), y.size - i ≤ f → stripAt (x ++ y) (x.size + i) = stripAt y i := by
  intro f
  induction f with
  | zero => intro i h; rw [stripAt_end (by rw [ByteArray.size_append]; omega), stripAt_end (by omega)]
  | succ f ih =>
    intro i h
    by_cases hi : i < y.size
    · by_cases hz : (readE y i).size = 0
      · rw [stripAt_keep hi hz, stripAt_keep (by rw [ByteArray.size_append]; omega) (by rw [read_shift]; exact hz), Nat.add_assoc, ih (i + 1) (by omega)]
        congr 1
        apply ext_byt
        · rw [ByteArray.size_extract, ByteArray.size_extract, ByteArray.size_append]
          omega
        · intro k hk
          rw [ByteArray.size_extract, ByteArray.size_append] at hk
          rw [byt_extract _ _ _ k (by omega) (by rw [ByteArray.size_append]; omega), byt_extract _ _ _ k (by omega) (by omega), Nat.add_assoc, byt_right]
      · rw [stripAt_skip hi hz, stripAt_skip (by rw [ByteArray.size_append]; omega) (by rw [read_shift]; exact hz), read_shift, Nat.add_assoc, ih _ (by omega)]
    · rw [stripAt_end (by rw [ByteArray.size_append]; omega), stripAt_end (by omega)]
theorem strip_left (x y : ByteArray) (hc : ∀ j, j < x.size → byt x j ≠ 27) : ∀ (f i : Nat), x.size - i ≤ f → i ≤ x.size → stripAt (x ++ y) i = x.extract i x.size ++ stripAt y 0 := by
  intro f
  induction f with
  | zero =>
    intro i h hi
    obtain rfl : i = x.size := by omega
    have := strip_shift x y _ 0 (Nat.le_refl _)
    rw [Nat.add_zero] at this
    rw [this, ext_self, empty_append]
  | succ f ih =>
    intro i h hi
    by_cases hl : i < x.size
    · have hl' : i < (x ++ y).size := by rw [ByteArray.size_append]; omega
      rw [stripAt_keep hl' ((readE_esc _ i hl').2 (by rw [byt_left _ _ i hl]; exact hc i hl)), ih (i + 1) (by omega) (by omega), ← append_assoc3]
      congr 1
      rw [← ext_append x i (i + 1) x.size (by omega) (by omega) (Nat.le_refl _)]
      congr 1
      exact (Pre.left x y).extract (by omega)
    · obtain rfl : i = x.size := by omega
      have := strip_shift x y _ 0 (Nat.le_refl _)
      rw [Nat.add_zero] at this
      rw [this, ext_self, empty_append]
theorem strip_write (last : Int) (l : List Int) (y : ByteArray) : stripAt (writeB last l ++ y) 0 = stripAt y 0 := by
  by_cases h : RightW last l
  · have hr := writ_read h y
    have hs : 3 ≤ (writeB last l).size := by rw [writeB_right h, writ_size]; omega
    have hz : ¬ (readE (writeB last l ++ y) ((0 : Nat) : Int)).size = 0 := by
      show ¬ (readE (writeB last l ++ y) 0).size = 0
      rw [hr]; show ¬ (writeB last l).size = 0; omega
    rw [stripAt_skip (by rw [ByteArray.size_append]; omega) hz]
    have e : (readE (writeB last l ++ y) ((0 : Nat) : Int)).size = (writeB last l).size := by
      show (readE (writeB last l ++ y) 0).size = _
      rw [hr]
    rw [e, Nat.zero_add]
    have := strip_shift (writeB last l) y _ 0 (Nat.le_refl _)
    rwa [Nat.add_zero] at this
  · rw [writeB_wrong h, empty_append]
theorem strip_text : ∀ (l : List Int), (∀ r ∈ l, r ≠ 27) → stripAt (textB l) 0 = textB l
  | [], _ => stripAt_end (Nat.le_refl _)
  | r :: l, h => by
    show stripAt (putB r ++ textB l) 0 = putB r ++ textB l
    rw [strip_left _ _ (putB_clean (h r (List.mem_cons_self ..))) _ 0 (Nat.le_refl _) (Nat.zero_le _), ext_whole, strip_text l fun x hx => h x (List.mem_cons_of_mem _ hx)]
theorem strip_seq (last : Int) (n : List Int) : ∀ (l : List Int), (∀ r ∈ l, r ≠ 27) → stripAt (seqB (writeB last n) l) 0 = textB l
  | [], _ => stripAt_end (Nat.le_refl _)
  | r :: l, h => by
    show stripAt (putB r ++ (writeB last n ++ seqB (writeB last n) l)) 0 = putB r ++ textB l
    rw [strip_left _ _ (putB_clean (h r (List.mem_cons_self ..))) _ 0 (Nat.le_refl _) (Nat.zero_le _), ext_whole, strip_write, strip_seq last n l fun x hx => h x (List.mem_cons_of_mem _ hx)]
end Go.Proofs.YtlopigkaibkblaaDoor
