/- Chapter 17: a control sequence, written, and read again: the plain law. -/
import Derived.Test.YtlopigkaibkblaaDoorAnP
import Derived.Test.YtlopigkaibkblaaDoorAnS
import Derived.Lib.ItoaNum
import Derived.Lib.ItoaMem
import Derived.Lib.Join
namespace Go.Proofs.YtlopigkaibkblaaDoor
set_option linter.unusedVariables false

def itoaB (x : Int) : ByteArray := ⟨(Lib.itoa x).toArray⟩
def joinI : List Int → ByteArray
  | [] => ⟨#[]⟩
  | [x] => itoaB x
  | x :: y :: r => itoaB x ++ (semiB ++ joinI (y :: r))
def RightW (last : Int) (l : List Int) : Prop := (64 ≤ last ∧ last ≤ 126) ∧ ∀ x ∈ l, 0 ≤ x ∧ x ≤ 99999
def headB : ByteArray := ⟨#[27, 91]⟩
noncomputable def writeB (last : Int) (l : List Int) : ByteArray :=
  open Classical in if RightW last l then headB ++ (joinI l ++ oneB last) else ⟨#[]⟩
theorem writeB_right {last : Int} {l : List Int} (h : RightW last l) : writeB last l = headB ++ (joinI l ++ oneB last) := by unfold writeB; exact if_pos h
theorem writeB_wrong {last : Int} {l : List Int} (h : ¬ RightW last l) : writeB last l = ⟨#[]⟩ := by unfold writeB; exact if_neg h

theorem dec_mem : ∀ (u : Nat), ∀ b ∈ Lib.decDigits u, 48 ≤ b.toNat ∧ b.toNat ≤ 57 := by
  intro u
  induction u using Nat.strongRecOn with
  | _ u ih =>
    intro b hb
    rw [Lib.decDigits] at hb
    split at hb
    · rw [List.mem_singleton.1 hb, UInt8.toNat_ofNat']
      omega
    · rcases List.mem_append.1 hb with h | h
      · exact ih (u / 10) (by omega) b h
      · rw [List.mem_singleton.1 h, UInt8.toNat_ofNat']
        omega
theorem dec_from : ∀ (u : Nat), Lib.decFrom 0 (Lib.decDigits u) = some u := by
  intro u
  induction u using Nat.strongRecOn with
  | _ u ih =>
    rw [Lib.decDigits]
    split
    · rename_i h
      have hb : (UInt8.ofNat (48 + u)).toNat = 48 + u := by rw [UInt8.toNat_ofNat']; omega
      have := decFrom_snoc [] 0 0 (UInt8.ofNat (48 + u)) rfl (by rw [hb]; omega)
      rw [hb] at this
      rw [List.nil_append] at this
      rw [this]
      congr 1
      omega
    · rename_i h
      have hb : (UInt8.ofNat (48 + u % 10)).toNat = 48 + u % 10 := by rw [UInt8.toNat_ofNat']; omega
      rw [decFrom_snoc _ 0 _ (UInt8.ofNat (48 + u % 10)) (ih (u / 10) (by omega)) (by rw [hb]; omega), hb]
      congr 1
      omega
theorem dec_len : ∀ (k u : Nat), 1 ≤ k → u < 10 ^ k → (Lib.decDigits u).length ≤ k := by
  intro k
  induction k with
  | zero => intro u h; omega
  | succ k ih =>
    intro u _ hu
    rw [Lib.decDigits]
    split
    · simp
    · rename_i h
      rw [List.length_append, List.length_singleton]
      have hk : 1 ≤ k := by
        rcases Nat.eq_zero_or_pos k with h0 | h0
        · subst h0; exact absurd hu h
        · exact h0
      have := ih (u / 10) hk (by rw [Nat.pow_succ] at hu; omega)
      omega
theorem dec_pos (u : Nat) : 1 ≤ (Lib.decDigits u).length := by
  rw [Lib.decDigits]
  split
  · simp
  · simp
theorem list_byt (l : List UInt8) (i : Nat) (h : i < l.length) : byt ⟨l.toArray⟩ i = (l[i].toNat : Int) := by
  unfold byt
  simp [Array.getD_eq_getD_getElem?, h]
theorem itoaB_dig {x : Int} (h0 : 0 ≤ x) : DigP (itoaB x) := by
  intro i hi
  obtain ⟨u, rfl⟩ : ∃ u : Nat, x = u := ⟨x.toNat, by omega⟩
  unfold itoaB at hi ⊢
  rw [Lib.itoa_nonneg] at hi ⊢
  have hi' : i < (Lib.decDigits u).length := by simpa [ByteArray.size] using hi
  rw [list_byt _ i hi']
  have := dec_mem u _ (List.getElem_mem hi')
  omega
theorem itoaB_size {x : Int} (h0 : 0 ≤ x) (h1 : x ≤ 99999) : 1 ≤ (itoaB x).size ∧ (itoaB x).size ≤ 5 := by
  obtain ⟨u, rfl⟩ : ∃ u : Nat, x = u := ⟨x.toNat, by omega⟩
  unfold itoaB
  rw [Lib.itoa_nonneg]
  have := dec_len 5 u (by decide) (by omega)
  have := dec_pos u
  simp [ByteArray.size]
  omega
theorem itoaB_val {x : Int} (h0 : 0 ≤ x) : valB (itoaB x) = x := by
  obtain ⟨u, rfl⟩ : ∃ u : Nat, x = u := ⟨x.toNat, by omega⟩
  unfold valB itoaB
  rw [Lib.itoa_nonneg]
  exact atoi_dig _ (dec_mem u) u (dec_from u)
theorem semi_size : semiB.size = 1 := rfl
theorem semi_byt : byt semiB 0 = 59 := rfl
theorem joinI_nums : ∀ (l : List Int), l ≠ [] → (∀ x ∈ l, 0 ≤ x ∧ x ≤ 99999) → numsL (piecesB (joinI l)) = some l
  | [], h, _ => absurd rfl h
  | [x], _, hl => by
    have hx := hl x (List.mem_singleton_self x)
    have hs := itoaB_size hx.1 hx.2
    have hw := ext_whole (itoaB x)
    have := nums_last (itoaB x) 0 (itoaB x).size (Nat.zero_le _) (Nat.le_refl _) (by omega) (by rw [hw]; exact itoaB_dig hx.1)
    rw [hw, itoaB_val hx.1] at this
    exact this
  | x :: y :: r, _, hl => by
    have hx := hl x (List.mem_cons_self ..)
    have hs := itoaB_size hx.1 hx.2
    have ih := joinI_nums (y :: r) (by simp) fun z hz => hl z (List.mem_cons_of_mem _ hz)
    have hj : joinI (x :: y :: r) = itoaB x ++ (semiB ++ joinI (y :: r)) := rfl
    rw [hj]
    generalize joinI (y :: r) = J at *
    have hp : Pre (itoaB x ++ (semiB ++ J)) (itoaB x ++ (semiB ++ J)) := ⟨Nat.le_refl _, fun _ _ => rfl⟩
    have hsz : (itoaB x ++ (semiB ++ J)).size = (itoaB x).size + (1 + J.size) := by rw [ByteArray.size_append, ByteArray.size_append, semi_size]
    have e1 : (itoaB x ++ (semiB ++ J)).extract 0 (itoaB x).size = itoaB x := by
      apply ext_byt
      · rw [ByteArray.size_extract]; omega
      · intro i hi
        rw [ByteArray.size_extract] at hi
        rw [byt_extract _ 0 _ i (by omega) (by omega), Nat.zero_add, byt_left _ _ i (by omega)]
    have e2 : (itoaB x ++ (semiB ++ J)).extract ((itoaB x).size + 1) (itoaB x ++ (semiB ++ J)).size = J := by
      have hp2 : Pre ((itoaB x ++ semiB) ++ J) (itoaB x ++ (semiB ++ J)) := by rw [append_assoc3]; exact hp
      have := hp2.piece
      rw [ByteArray.size_append, semi_size] at this
      rw [hsz, ← Nat.add_assoc]
      exact this
    have hc : byt (itoaB x ++ (semiB ++ J)) (itoaB x).size = 59 := by
      have := byt_right (itoaB x) (semiB ++ J) 0
      rw [Nat.add_zero] at this
      rw [this, byt_left _ _ 0 (by decide)]
      rfl
    have h := nums_semi (itoaB x ++ (semiB ++ J)) 0 (itoaB x).size _ (Nat.zero_le _) (by rw [hsz]; omega) (Nat.le_refl _) (by omega) (by rw [e1]; exact itoaB_dig hx.1) hc
    rw [e1, e2, ext_whole, itoaB_val hx.1, ih] at h
    exact h
theorem none_nums : numsL (piecesB (joinI [])) = some [0] := by
  have h := nums_last (joinI []) 0 0 (Nat.le_refl _) (Nat.le_refl _) (by decide) (val_empty _ 0).1
  rw [(val_empty _ 0).2, ext_self] at h
  exact h
theorem joinI_byt : ∀ (l : List Int), (∀ x ∈ l, 0 ≤ x ∧ x ≤ 99999) → (∀ i, i < (joinI l).size → 48 ≤ byt (joinI l) i ∧ byt (joinI l) i ≤ 59) ∧ (joinI l).size ≤ 6 * l.length
  | [], _ => ⟨fun i hi => absurd hi (Nat.not_lt_zero _), Nat.le_refl _⟩
  | [x], hl => by
    have hx := hl x (List.mem_singleton_self x)
    have hs := itoaB_size hx.1 hx.2
    refine ⟨fun i hi => ?_, by show (itoaB x).size ≤ 6; omega⟩
    have := itoaB_dig hx.1 i hi
    exact ⟨this.1, by have := this.2; show byt (itoaB x) i ≤ 59; omega⟩
  | x :: y :: r, hl => by
    have hx := hl x (List.mem_cons_self ..)
    have hs := itoaB_size hx.1 hx.2
    obtain ⟨ih, ihs⟩ := joinI_byt (y :: r) fun z hz => hl z (List.mem_cons_of_mem _ hz)
    have hj : joinI (x :: y :: r) = itoaB x ++ (semiB ++ joinI (y :: r)) := rfl
    rw [hj]
    generalize joinI (y :: r) = J at *
    have hsz : (itoaB x ++ (semiB ++ J)).size = (itoaB x).size + (1 + J.size) := by rw [ByteArray.size_append, ByteArray.size_append, semi_size]
    refine ⟨fun i hi => ?_, by rw [hsz]; simp only [List.length_cons] at ihs ⊢; omega⟩
    by_cases h1 : i < (itoaB x).size
    · rw [byt_left _ _ i h1]
      have := itoaB_dig hx.1 i h1
      omega
    · obtain ⟨k, rfl⟩ : ∃ k, i = (itoaB x).size + k := ⟨i - (itoaB x).size, by omega⟩
      rw [byt_right]
      rw [hsz] at hi
      by_cases h0 : k = 0
      · subst h0
        rw [byt_left _ _ 0 (by decide), semi_byt]
        omega
      · obtain ⟨m, rfl⟩ : ∃ m, k = semiB.size + m := ⟨k - 1, by rw [semi_size]; omega⟩
        rw [byt_right]
        rw [semi_size] at hi
        exact ih m (by omega)
theorem joinI_snoc (x : Int) : ∀ (l : List Int), joinI (l ++ [x]) = if l = [] then itoaB x else joinI l ++ (semiB ++ itoaB x)
  | [] => rfl
  | [y] => rfl
  | y :: z :: r => by
    rw [if_neg (by simp)]
    have ih := joinI_snoc x (z :: r)
    rw [if_neg (by simp)] at ih
    show itoaB y ++ (semiB ++ joinI (z :: r ++ [x])) = (itoaB y ++ (semiB ++ joinI (z :: r))) ++ (semiB ++ itoaB x)
    rw [ih]
    simp only [append_assoc3]
theorem joinI_join : ∀ (l : List Int), joinI l = ⟨(Lib.join ((l.map itoaB).map (·.data.toList)) semiB.data.toList).toArray⟩
  | [] => rfl
  | [x] => by
    rw [List.map_singleton, List.map_singleton, Lib.join_one]
    rfl
  | x :: y :: r => by
    have ih := joinI_join (y :: r)
    show itoaB x ++ (semiB ++ joinI (y :: r)) = _
    rw [ih]
    simp only [List.map_cons]
    rw [Lib.join_cons, Lib.join_cons]
    apply ByteArray.ext
    simp only [ByteArray.data_append, Lib.joinTail, List.map_cons, List.flatten_cons]
    simp
/-- Where all bytes up to k pass, and the one at k does not. -/
theorem passTo_at {p : Int → Bool} {s : ByteArray} {k : Nat} (hk : k < s.size) (hs : p (byt s k) = false) : ∀ (f i : Nat), k - i ≤ f → i ≤ k → (∀ j, i ≤ j → j < k → p (byt s j) = true) → passTo p s i = k := by
  intro f
  induction f with
  | zero =>
    intro i hf hi _
    obtain rfl : i = k := by omega
    exact passTo_stop hk hs
  | succ f ih =>
    intro i hf hi h
    by_cases he : i = k
    · subst he; exact passTo_stop hk hs
    · rw [passTo_step (by omega) (h i (Nat.le_refl _) (by omega))]
      exact ih (i + 1) (by omega) (by omega) fun j h1 h2 => h j (by omega) h2
theorem oneB_byt {c : Int} (h0 : 0 ≤ c) (h1 : c ≤ 255) : byt (oneB c) 0 = c := by
  show (((UInt8.ofNat c.toNat).toNat : Nat) : Int) = c
  rw [UInt8.toNat_ofNat']
  omega
theorem head_size : headB.size = 2 := rfl
/-- A written sequence's bytes. -/
theorem writ_facts {last : Int} {l : List Int} (h : RightW last l) (s : ByteArray) (hp : Pre (headB ++ (joinI l ++ oneB last)) s) :
    byt s 0 = 27 ∧ byt s 1 = 91 ∧ 2 + (joinI l).size < s.size ∧ seqK s = 2 + (joinI l).size ∧ seqN s = 2 + (joinI l).size ∧ byt s (2 + (joinI l).size) = last ∧ s.extract 2 (2 + (joinI l).size) = joinI l := by
  obtain ⟨hl, hn⟩ := h
  have hj := (joinI_byt l hn).1
  have hsz : (headB ++ (joinI l ++ oneB last)).size = 2 + ((joinI l).size + 1) := by rw [ByteArray.size_append, ByteArray.size_append]; rfl
  have hps := hp.1
  have b0 : byt s 0 = 27 := by rw [hp.2 0 (by omega), byt_left _ _ 0 (by decide)]; rfl
  have b1 : byt s 1 = 91 := by rw [hp.2 1 (by omega), byt_left _ _ 1 (by decide)]; rfl
  have bj : ∀ i, i < (joinI l).size → byt s (2 + i) = byt (joinI l) i := fun i hi => by
    rw [hp.2 _ (by omega), show 2 + i = headB.size + i from rfl, byt_right, byt_left _ _ i hi]
  have bl : byt s (2 + (joinI l).size) = last := by
    rw [hp.2 _ (by omega), show 2 + (joinI l).size = headB.size + (joinI l).size from rfl, byt_right]
    have := byt_right (joinI l) (oneB last) 0
    rw [Nat.add_zero] at this
    rw [this, oneB_byt (by omega) (by omega)]
  have hK : seqK s = 2 + (joinI l).size := by
    refine passTo_at (by omega) (by rw [bl]; exact decide_eq_false (by omega)) _ 2 (Nat.le_refl _) (by omega) fun j h1 h2 => ?_
    have e := bj (j - 2) (by omega)
    rw [show 2 + (j - 2) = j by omega] at e
    rw [e]
    have := hj (j - 2) (by omega)
    exact decide_eq_true (by omega)
  refine ⟨b0, b1, by omega, hK, ?_, bl, ?_⟩
  · show passTo (amongB 32 47) s (seqK s) = _
    rw [hK]
    exact passTo_stop (by omega) (by rw [bl]; exact decide_eq_false (by omega))
  · apply ext_byt
    · rw [ByteArray.size_extract]; omega
    · intro i hi
      rw [ByteArray.size_extract] at hi
      rw [byt_extract s 2 _ i (by omega) (by omega)]
      exact bj i (by omega)
theorem writ_head {last : Int} {l : List Int} (h : RightW last l) (s : ByteArray) (hp : Pre (headB ++ (joinI l ++ oneB last)) s) : headE s = ⟨3 + (joinI l).size, true, false, last⟩ := by
  obtain ⟨b0, b1, hs, hK, hN, bl, _⟩ := writ_facts h s hp
  unfold headE
  rw [if_neg (by omega), if_pos b1]
  unfold seqE
  rw [hN, bl, if_pos ⟨hs, decide_eq_true h.1⟩]
  congr 1
  omega
theorem writ_size (last : Int) (l : List Int) : (headB ++ (joinI l ++ oneB last)).size = 3 + (joinI l).size := by
  rw [ByteArray.size_append, ByteArray.size_append, head_size, show (oneB last).size = 1 from rfl]
  omega
theorem writ_read {last : Int} {l : List Int} (h : RightW last l) (m : ByteArray) : readE (writeB last l ++ m) 0 = ⟨(writeB last l).size, true, false, last⟩ := by
  rw [writeB_right h]
  have hp := Pre.left (headB ++ (joinI l ++ oneB last)) m
  have hf := writ_facts h _ hp
  rw [readE_head (by omega) hf.1, writ_head h _ hp, writ_size]
theorem writ_nums {last : Int} {l : List Int} (h : RightW last l) : numsV (writeB last l) 0 = some (if l = [] then [0] else l) := by
  rw [writeB_right h]
  have hp : Pre (headB ++ (joinI l ++ oneB last)) (headB ++ (joinI l ++ oneB last)) := ⟨Nat.le_refl _, fun _ _ => rfl⟩
  obtain ⟨b0, b1, hs, hK, hN, bl, he⟩ := writ_facts h _ hp
  generalize headB ++ (joinI l ++ oneB last) = s at *
  have e1 : numsV s 0 = headN s := by
    unfold numsV
    rw [if_pos ⟨⟨Int.le_refl _, by omega, b0⟩, by omega, b1⟩]
    exact congrArg headN (ext_whole s)
  have hw : (seqE s).whole = true := by
    unfold seqE
    rw [hN, bl, if_pos ⟨hs, decide_eq_true h.1⟩]
  rw [e1]
  unfold headN
  rw [if_neg (by rw [hw, hK, hN]; rintro (h | h) <;> simp at h), hK, he]
  by_cases hl : l = []
  · subst hl
    rw [if_pos rfl]
    exact none_nums
  · rw [if_neg hl]
    exact joinI_nums l hl h.2
/-- The law's digits: what is there ahead of the digits that have been laid. -/
theorem dec_step {u : Nat} (h : ¬ u < 10) : itoaB (u : Int) = itoaB ((u / 10 : Nat) : Int) ++ oneB (((48 + u % 10 : Nat) : Nat) : Int) := by
  unfold itoaB oneB
  rw [Lib.itoa_nonneg, Lib.itoa_nonneg, Lib.decDigits, dif_neg h]
  simp only [Int.toNat_natCast]
  generalize UInt8.ofNat (48 + u % 10) = b
  apply ByteArray.ext
  simp [ByteArray.data_append]
theorem dec_one {u : Nat} (h : u < 10) : itoaB (u : Int) = oneB (((48 + u : Nat) : Nat) : Int) := by
  unfold itoaB oneB
  rw [Lib.itoa_nonneg, Lib.decDigits, dif_pos h]
  rfl
end Go.Proofs.YtlopigkaibkblaaDoor
