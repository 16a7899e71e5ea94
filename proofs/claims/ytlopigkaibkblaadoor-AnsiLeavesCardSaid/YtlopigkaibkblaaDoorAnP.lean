/- Chapter 17: the numbers, byte by byte: the plain law. -/
import Derived.Test.YtlopigkaibkblaaDoorAnE
import Derived.Test.YtlopigkaibkblaaDoorAnG
import Derived.Lib.IndexLaws
import Derived.Lib.IndexBytes
namespace Go.Proofs.YtlopigkaibkblaaDoor
set_option linter.unusedVariables false

theorem byt_get? (x : ByteArray) (i : Nat) (c : UInt8) (hc : c.toNat < 256 := by decide) : x.data.toList[i]? = some c ↔ i < x.size ∧ byt x i = (c.toNat : Int) := by
  unfold byt
  rw [Array.getElem?_toList, Array.getD_eq_getD_getElem?]
  constructor
  · intro h
    have hi := (Array.getElem?_eq_some_iff.1 h).1
    exact ⟨hi, by rw [h]; rfl⟩
  · rintro ⟨hi, he⟩
    have hi' : i < x.data.size := hi
    rw [Array.getElem?_eq_getElem hi'] at he ⊢
    simp only [Option.getD_some] at he
    congr 1
    apply UInt8.toNat_inj.1
    omega
/-- The pieces: none but all of it, or up to the first semicolon and the rest's. -/
theorem pieces_cases (x : ByteArray) : ((∀ i, i < x.size → byt x i ≠ 59) ∧ piecesB x = [x]) ∨
    ∃ i, i < x.size ∧ byt x i = 59 ∧ (∀ k, k < i → byt x k ≠ 59) ∧ piecesB x = x.extract 0 i :: piecesB (x.extract (i + 1) x.size) := by
  have hone : Lib.indexB x semiB = Lib.indexByte x.data.toList 59 := Lib.index_one x.data.toList 59
  unfold piecesB
  rcases Lib.indexB_cases x semiB with hix | ⟨i, hix, hroom⟩
  · left
    rw [Lib.countB_miss x semiB hix, Lib.splitB_zero]
    rw [hone] at hix
    have hn := Lib.indexByte_none hix
    refine ⟨fun i hi he => hn i ((byt_get? x i 59).2 ⟨hi, he⟩), rfl⟩
  · right
    rw [Lib.countB_hit x semiB i (by decide) hix, Nat.add_comm 1, Lib.splitB_hit semiB 0 _ x i hix]
    rw [hone] at hix
    obtain ⟨h1, h2⟩ := Lib.indexByte_some hix
    obtain ⟨h3, h4⟩ := (byt_get? x i 59).1 h1
    refine ⟨i, h3, h4, fun k hk he => h2 k hk ((byt_get? x k 59).2 ⟨by omega, he⟩), rfl⟩
/-- A byte that is neither a digit nor a semicolon: no numbers. -/
theorem nums_bad : ∀ (f : Nat) (x : ByteArray), x.size ≤ f → ∀ i, i < x.size → byt x i ≠ 59 → ¬ (48 ≤ byt x i ∧ byt x i ≤ 57) → numsL (piecesB x) = none := by
  intro f
  induction f with
  | zero => intro x h i hi; omega
  | succ f ih =>
    intro x h i hi h59 hd
    rcases pieces_cases x with ⟨_, hp⟩ | ⟨k, hk, hk59, hlt, hp⟩
    · rw [hp, numsL, numB_no (fun hn => hd (hn.2 i hi))]
    · rw [hp, numsL]
      by_cases hik : i < k
      · rw [numB_no (fun hn => hd (by
          have := hn.2 i (by rw [ByteArray.size_extract]; omega)
          rwa [byt_extract x 0 k i (by omega) (by omega), Nat.zero_add] at this))]
      · have hne : i ≠ k := fun e => h59 (e ▸ hk59)
        have hb := byt_extract x (k + 1) x.size (i - (k + 1)) (by omega) (Nat.le_refl _)
        rw [show k + 1 + (i - (k + 1)) = i by omega] at hb
        have := ih (x.extract (k + 1) x.size) (by rw [ByteArray.size_extract]; omega) (i - (k + 1)) (by rw [ByteArray.size_extract]; omega) (by rw [hb]; exact h59) (by rw [hb]; exact hd)
        cases numB (x.extract 0 k) with
        | none => rfl
        | some v => rw [this]; rfl
/-- The value of digits. -/
def valB (p : ByteArray) : Int := (Lib.atoi p.data.toList).getD 0
theorem decFrom_snoc : ∀ (l : List UInt8) (acc m : Nat) (b : UInt8), Lib.decFrom acc l = some m → 48 ≤ b.toNat ∧ b.toNat ≤ 57 → Lib.decFrom acc (l ++ [b]) = some (m * 10 + (b.toNat - 48))
  | [], acc, m, b, h, hb => by
    simp only [Lib.decFrom, Option.some.injEq] at h
    subst h
    simp [Lib.decFrom, Lib.digitVal, hb]
  | a :: l, acc, m, b, h, hb => by
    simp only [Lib.decFrom] at h
    show (match Lib.digitVal a with | some d => Lib.decFrom (acc * 10 + d) (l ++ [b]) | none => none) = _
    cases hd : Lib.digitVal a with
    | none => rw [hd] at h; cases h
    | some d => rw [hd] at h; exact decFrom_snoc l _ m b h hb
theorem decFrom_dig : ∀ (l : List UInt8) (acc : Nat), (∀ b ∈ l, 48 ≤ b.toNat ∧ b.toNat ≤ 57) → ∃ m, Lib.decFrom acc l = some m
  | [], acc, _ => ⟨acc, rfl⟩
  | a :: l, acc, h => by
    have ha := h a (List.mem_cons_self ..)
    obtain ⟨m, hm⟩ := decFrom_dig l (acc * 10 + (a.toNat - 48)) fun b hb => h b (List.mem_cons_of_mem _ hb)
    refine ⟨m, ?_⟩
    show (match Lib.digitVal a with | some d => Lib.decFrom (acc * 10 + d) l | none => none) = _
    rw [show Lib.digitVal a = some (a.toNat - 48) by unfold Lib.digitVal; rw [if_pos ha]]
    exact hm
theorem atoi_dig (l : List UInt8) (h : ∀ b ∈ l, 48 ≤ b.toNat ∧ b.toNat ≤ 57) (m : Nat) (hm : Lib.decFrom 0 l = some m) : (Lib.atoi l).getD 0 = (m : Int) := by
  cases l with
  | nil => simp only [Lib.decFrom, Option.some.injEq] at hm; subst hm; rfl
  | cons a r =>
    have ha := h a (List.mem_cons_self ..)
    have h45 : (a == 45) = false := by
      cases hq : (a == 45)
      · rfl
      · rw [beq_iff_eq.1 hq] at ha; exact absurd ha (by decide)
    have h43 : (a == 43) = false := by
      cases hq : (a == 43)
      · rfl
      · rw [beq_iff_eq.1 hq] at ha; exact absurd ha (by decide)
    simp only [Lib.atoi, h45, h43, Lib.decNat, List.isEmpty_cons, hm]
    rfl
theorem dig_mem {s : ByteArray} (h : DigP s) : ∀ b ∈ s.data.toList, 48 ≤ b.toNat ∧ b.toNat ≤ 57 := by
  intro b hb
  obtain ⟨i, hi, he⟩ := List.getElem_of_mem hb
  have hi' : i < s.data.size := by simpa using hi
  have := h i hi'
  unfold byt at this
  rw [Array.getD_eq_getD_getElem?, Array.getElem?_eq_getElem hi'] at this
  have he' : s.data[i] = b := by simpa using he
  rw [← he']
  simp only [Option.getD_some] at this
  omega
/-- One digit more. -/
theorem val_snoc (t : ByteArray) (b j : Nat) (hbj : b ≤ j) (hj : j < t.size) (hd : DigP (t.extract b j)) (hc : 48 ≤ byt t j ∧ byt t j ≤ 57) :
    DigP (t.extract b (j + 1)) ∧ valB (t.extract b (j + 1)) = 10 * valB (t.extract b j) + (byt t j - 48) := by
  have hd2 : DigP (t.extract b (j + 1)) := by
    intro i hi
    rw [ByteArray.size_extract] at hi
    rw [byt_extract t b (j + 1) i (by omega) (by omega)]
    by_cases he : b + i = j
    · rw [he]; exact hc
    · have := hd i (by rw [ByteArray.size_extract]; omega)
      rwa [byt_extract t b j i (by omega) (by omega)] at this
  refine ⟨hd2, ?_⟩
  have hj' : j < t.data.size := hj
  have hl : (t.extract b (j + 1)).data.toList = (t.extract b j).data.toList ++ [t.data[j]] := by
    rw [← ext_append t b j (j + 1) hbj (by omega) (by omega), ByteArray.data_append, Array.toList_append]
    congr 1
    simp only [ByteArray.data_extract]
    apply List.ext_getElem
    · simp; omega
    · intro i h1 h2
      simp at h1 h2 ⊢
      congr 1
      omega
  have hb : ((t.data[j].toNat : Nat) : Int) = byt t j := by
    unfold byt
    rw [Array.getD_eq_getD_getElem?, Array.getElem?_eq_getElem hj']
    rfl
  obtain ⟨m, hm⟩ := decFrom_dig _ 0 (dig_mem hd)
  have hm2 := decFrom_snoc _ 0 m t.data[j] hm (by omega)
  rw [← hl] at hm2
  unfold valB
  rw [atoi_dig _ (dig_mem hd) m hm, atoi_dig _ (dig_mem hd2) _ hm2]
  omega
theorem val_empty (t : ByteArray) (j : Nat) : DigP (t.extract j j) ∧ valB (t.extract j j) = 0 := by
  rw [ext_self]
  exact ⟨fun i hi => absurd hi (Nat.not_lt_zero _), rfl⟩
theorem dig_no59 {t : ByteArray} {b j : Nat} (hj : j ≤ t.size) (hd : DigP (t.extract b j)) (i : Nat) (h1 : b ≤ i) (h2 : i < j) : byt t i ≠ 59 := by
  have := hd (i - b) (by rw [ByteArray.size_extract]; omega)
  rw [byt_extract t b j (i - b) (by omega) hj, show b + (i - b) = i by omega] at this
  omega
/-- A semicolon behind digits. -/
theorem nums_semi (t : ByteArray) (b j N : Nat) (hbj : b ≤ j) (hjN : j < N) (hN : N ≤ t.size) (h5 : j - b ≤ 5) (hd : DigP (t.extract b j)) (hc : byt t j = 59) :
    numsL (piecesB (t.extract b N)) = (numsL (piecesB (t.extract (j + 1) N))).map (valB (t.extract b j) :: ·) := by
  have hbx : ∀ i, b + i < N → byt (t.extract b N) i = byt t (b + i) := fun i hi => byt_extract t b N i (by omega) hN
  have hsz : (t.extract b N).size = N - b := by rw [ByteArray.size_extract]; omega
  rcases pieces_cases (t.extract b N) with ⟨hno, _⟩ | ⟨k, hk, hk59, hlt, hp⟩
  · exfalso
    exact hno (j - b) (by omega) (by rw [hbx _ (by omega), show b + (j - b) = j by omega]; exact hc)
  · have hkj : k = j - b := by
      rw [hsz] at hk
      rw [hbx k (by omega)] at hk59
      by_cases h1 : k < j - b
      · exact absurd hk59 (dig_no59 (by omega) hd (b + k) (by omega) (by omega))
      · by_cases h2 : j - b < k
        · exact absurd (by rw [hbx _ (by omega), show b + (j - b) = j by omega]; exact hc) (hlt (j - b) h2)
        · omega
    have e1 : (t.extract b N).extract 0 k = t.extract b j := by
      apply ext_byt
      · simp only [ByteArray.size_extract]; omega
      · intro i hi
        rw [ByteArray.size_extract, hsz] at hi
        rw [byt_extract (t.extract b N) 0 k i (by omega) (by omega), Nat.zero_add, hbx i (by omega), byt_extract t b j i (by omega) (by omega)]
    have e2 : (t.extract b N).extract (k + 1) (t.extract b N).size = t.extract (j + 1) N := by
      apply ext_byt
      · simp only [ByteArray.size_extract]; omega
      · intro i hi
        rw [ByteArray.size_extract, hsz] at hi
        rw [byt_extract (t.extract b N) (k + 1) _ i (by omega) (Nat.le_refl _), hbx _ (by omega), byt_extract t (j + 1) N i (by omega) hN]
        congr 1
        omega
    rw [hp, e1, e2, numsL, numB_yes (by rw [ByteArray.size_extract]; omega) hd]
    rfl
/-- The end behind digits. -/
theorem nums_last (t : ByteArray) (b N : Nat) (hbN : b ≤ N) (hN : N ≤ t.size) (h5 : N - b ≤ 5) (hd : DigP (t.extract b N)) : numsL (piecesB (t.extract b N)) = some [valB (t.extract b N)] := by
  have hsz : (t.extract b N).size = N - b := by rw [ByteArray.size_extract]; omega
  rcases pieces_cases (t.extract b N) with ⟨_, hp⟩ | ⟨k, hk, hk59, _, _⟩
  · rw [hp, numsL, numB_yes (by omega) hd]
    rfl
  · have := hd k hk
    omega
/-- More digits than may be. -/
theorem nums_long (t : ByteArray) (b j N : Nat) (hbj : b ≤ j) (hjN : j < N) (hN : N ≤ t.size) (h5 : j - b = 5) (hd : DigP (t.extract b j)) (hc : 48 ≤ byt t j ∧ byt t j ≤ 57) : numsL (piecesB (t.extract b N)) = none := by
  have hd2 := (val_snoc t b j hbj (by omega) hd hc).1
  have hsz : (t.extract b N).size = N - b := by rw [ByteArray.size_extract]; omega
  rcases pieces_cases (t.extract b N) with ⟨_, hp⟩ | ⟨k, hk, hk59, _, hp⟩
  · rw [hp, numsL, numB_no (fun h => by have := h.1; omega)]
  · rw [hsz] at hk
    rw [byt_extract t b N k (by omega) hN] at hk59
    have hkj : j + 1 ≤ b + k := by
      by_cases h : b + k < j + 1
      · exact absurd hk59 (dig_no59 (by omega) hd2 (b + k) (by omega) h)
      · omega
    rw [hp, numsL, numB_no (fun h => by have := h.1; rw [ByteArray.size_extract, hsz] at this; omega)]
end Go.Proofs.YtlopigkaibkblaaDoor
