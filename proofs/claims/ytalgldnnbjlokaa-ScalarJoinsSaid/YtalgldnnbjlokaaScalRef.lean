/- THE PLAIN LAW of reading: the document's reading (which values bytes can still be the beginning of) is the program's. No Go in sight. -/
import Derived.Test.YtalgldnnbjlokaaScal
namespace Go.Proofs.Ytalgldnnbjlokaa

/-- The value behind bytes that must be continuations. -/
def contV : List Int → Int → Option Int
  | [], v => some v
  | b :: t, v => if b < 128 ∨ 192 ≤ b then none else contV t (64 * v + b - 128)

def expand : Nat → Int → Int → Int × Int
  | 0, lo, hi => (lo, hi)
  | m + 1, lo, hi => expand m (64 * lo) (64 * hi + 63)

/-- How many bytes, the value that the first one bears, the least and the greatest value. -/
def leadB (c : Int) : Int × Int × Int × Int :=
  if 192 ≤ c ∧ c < 224 then (2, c - 192, 128, 2047) else if 224 ≤ c ∧ c < 240 then (3, c - 224, 2048, 65535) else if 240 ≤ c ∧ c < 248 then (4, c - 240, 65536, 1114111) else (0, 0, 0, 0)

def judge (n : Int) (least most : Int) (p : Int × Int) : Int × Int :=
  if p.2 < least ∨ most < p.1 ∨ (55296 ≤ p.1 ∧ p.2 ≤ 57343) then (0, 0) else (p.1, n)

def beginsF : List Int → Int × Int
  | [] => (0, 0)
  | c :: t =>
    if c < 128 then (c, 1)
    else
      let q := leadB c
      if q.1 = 0 ∨ q.1 < (t.length : Int) + 1 then (0, 0)
      else match contV t q.2.1 with
        | none => (0, 0)
        | some v => judge q.1 q.2.2.1 q.2.2.2 (expand (q.1.toNat - (t.length + 1)) v v)

/-- The document's loop: from k on, with so many rounds left, 'size' kept. -/
def atGo (l : List Int) : Nat → Nat → Nat → Int × Nat × Bool
  | 0, _, size => (65533, size, false)
  | f + 1, k, size =>
    if l.length < k then (65533, size, false)
    else
      let p := beginsF (l.take k)
      if p.2 = 0 then (65533, size, false)
      else if p.2 = (k : Int) then (p.1, p.2.toNat, true)
      else atGo l f (k + 1) k

def atF (l : List Int) : Int × Nat × Bool := atGo l 4 1 1

theorem atGo_f0 (l : List Int) (k size : Nat) : atGo l 0 k size = (65533, size, false) := rfl

/-- What the second byte must be. -/
def ok2 (c d : Int) : Prop := needLo c ≤ d ∧ d ≤ needHi c
instance (c d : Int) : Decidable (ok2 c d) := inferInstanceAs (Decidable (_ ∧ _))

theorem need2 {c : Int} (h1 : 194 ≤ c) (h2 : c ≤ 223) : needN c = 2 ∧ needLo c = 128 ∧ needHi c = 191 ∧ leadB c = (2, c - 192, 128, 2047) := by
  refine ⟨?_, ?_, ?_, ?_⟩
  · unfold needN; repeat (first | rw [if_pos (by omega)] | rw [if_neg (by omega)])
  · unfold needLo; repeat (first | rw [if_pos (by omega)] | rw [if_neg (by omega)])
  · unfold needHi; repeat (first | rw [if_pos (by omega)] | rw [if_neg (by omega)])
  · unfold leadB; repeat (first | rw [if_pos (by omega)] | rw [if_neg (by omega)])
theorem need3 {c : Int} (h1 : 224 ≤ c) (h2 : c ≤ 239) : needN c = 3 ∧ needLo c = (if c = 224 then 160 else 128) ∧ needHi c = (if c = 237 then 159 else 191) ∧ leadB c = (3, c - 224, 2048, 65535) := by
  refine ⟨?_, ?_, ?_, ?_⟩
  · unfold needN; repeat (first | rw [if_pos (by omega)] | rw [if_neg (by omega)])
  · unfold needLo
    by_cases h : c = 224
    · rw [if_pos h, if_pos h]
    · rw [if_neg h, if_neg h, if_neg (by omega)]
  · unfold needHi
    by_cases h : c = 237
    · rw [if_pos h, if_pos h]
    · rw [if_neg h, if_neg h, if_neg (by omega)]
  · unfold leadB; repeat (first | rw [if_pos (by omega)] | rw [if_neg (by omega)])
theorem need4 {c : Int} (h1 : 240 ≤ c) (h2 : c ≤ 244) : needN c = 4 ∧ needLo c = (if c = 240 then 144 else 128) ∧ needHi c = (if c = 244 then 143 else 191) ∧ leadB c = (4, c - 240, 65536, 1114111) := by
  refine ⟨?_, ?_, ?_, ?_⟩
  · unfold needN; repeat (first | rw [if_pos (by omega)] | rw [if_neg (by omega)])
  · unfold needLo; repeat (first | rw [if_pos (by omega)] | rw [if_neg (by omega)])
  · unfold needHi; repeat (first | rw [if_pos (by omega)] | rw [if_neg (by omega)])
  · unfold leadB; repeat (first | rw [if_pos (by omega)] | rw [if_neg (by omega)])

theorem judge_no {n least most : Int} {p : Int × Int} (h : p.2 < least ∨ most < p.1 ∨ (55296 ≤ p.1 ∧ p.2 ≤ 57343)) : judge n least most p = (0, 0) := by unfold judge; rw [if_pos h]
theorem judge_yes {n least most : Int} {p : Int × Int} (h : ¬ (p.2 < least ∨ most < p.1 ∨ (55296 ≤ p.1 ∧ p.2 ≤ 57343))) : judge n least most p = (p.1, n) := by unfold judge; rw [if_neg h]

theorem beg_shape {c n v least most : Int} {t : List Int} (hc : ¬ c < 128) (hl : leadB c = (n, v, least, most)) (_hn : n ≠ 0) (ht : (t.length : Int) + 1 ≤ n) :
    beginsF (c :: t) = match contV t v with | none => (0, 0) | some x => judge n least most (expand (n.toNat - (t.length + 1)) x x) := by
  rw [beginsF, if_neg hc]
  simp only [hl]
  rw [if_neg (by omega)]

theorem cont1 {d v : Int} : contV [d] v = if d < 128 ∨ 192 ≤ d then none else some (64 * v + d - 128) := rfl
theorem cont_bad {d v : Int} {t : List Int} (h : d < 128 ∨ 192 ≤ d) : contV (d :: t) v = none := by
  show (if _ then _ else _) = _
  rw [if_pos h]
theorem cont_ok {d v : Int} {t : List Int} (h : ¬ (d < 128 ∨ 192 ≤ d)) : contV (d :: t) v = contV t (64 * v + d - 128) := by
  show (if _ then _ else _) = _
  rw [if_neg h]

/-- One byte. -/
theorem beg1_small {c : Int} (h : c < 128) (t : List Int) : beginsF (c :: t) = (c, 1) := by rw [beginsF, if_pos h]
theorem beg1_no {c : Int} (h1 : 128 ≤ c) (h2 : c < 194 ∨ 245 ≤ c) : (beginsF [c]).2 = 0 := by
  by_cases a : c < 192 ∨ 248 ≤ c
  · rw [beginsF, if_neg (by omega)]
    have : leadB c = (0, 0, 0, 0) := by unfold leadB; rw [if_neg (by omega), if_neg (by omega), if_neg (by omega)]
    simp [this]
  · by_cases b : c < 194
    · rw [beg_shape (n := 2) (v := c - 192) (least := 128) (most := 2047) (by omega) (by unfold leadB; rw [if_pos (by omega)]) (by omega) (by simp)]
      show (judge 2 128 2047 (64 * (c - 192), 64 * (c - 192) + 63)).2 = 0
      rw [judge_no (by simp only; omega)]
    · rw [beg_shape (n := 4) (v := c - 240) (least := 65536) (most := 1114111) (by omega) (by unfold leadB; rw [if_neg (by omega), if_neg (by omega), if_pos (by omega)]) (by omega) (by simp)]
      show (judge 4 65536 1114111 (64 * (64 * (64 * (c - 240))), 64 * (64 * (64 * (c - 240) + 63) + 63) + 63)).2 = 0
      rw [judge_no (by simp only; omega)]
theorem beg1_yes {c : Int} (h1 : 194 ≤ c) (h2 : c ≤ 244) : (beginsF [c]).2 = needN c := by
  by_cases a : c ≤ 223
  · obtain ⟨e1, _, _, e4⟩ := need2 h1 a
    rw [beg_shape (by omega) e4 (by omega) (by simp), e1]
    show (judge 2 128 2047 (64 * (c - 192), 64 * (c - 192) + 63)).2 = 2
    rw [judge_yes (by simp only; omega)]
  · by_cases b : c ≤ 239
    · obtain ⟨e1, _, _, e4⟩ := need3 (by omega) b
      rw [beg_shape (by omega) e4 (by omega) (by simp), e1]
      show (judge 3 2048 65535 (64 * (64 * (c - 224)), 64 * (64 * (c - 224) + 63) + 63)).2 = 3
      rw [judge_yes (by simp only; omega)]
    · obtain ⟨e1, _, _, e4⟩ := need4 (by omega) h2
      rw [beg_shape (by omega) e4 (by omega) (by simp), e1]
      show (judge 4 65536 1114111 (64 * (64 * (64 * (c - 240))), 64 * (64 * (64 * (c - 240) + 63) + 63) + 63)).2 = 4
      rw [judge_yes (by simp only; omega)]

/-- Two bytes. -/
theorem beg2_no {c d : Int} (h1 : 194 ≤ c) (h2 : c ≤ 244) (hd : 0 ≤ d ∧ d ≤ 255) (h : ¬ ok2 c d) : (beginsF [c, d]).2 = 0 := by
  unfold ok2 at h
  by_cases a : c ≤ 223
  · obtain ⟨e1, e2, e3, e4⟩ := need2 h1 a
    rw [e2, e3] at h
    rw [beg_shape (by omega) e4 (by omega) (by simp), cont_bad (by omega)]
  · by_cases b : c ≤ 239
    · obtain ⟨e1, e2, e3, e4⟩ := need3 (by omega) b
      rw [beg_shape (by omega) e4 (by omega) (by simp)]
      by_cases g : d < 128 ∨ 192 ≤ d
      · rw [cont_bad g]
      · rw [cont_ok g]
        show (judge 3 2048 65535 (64 * (64 * (c - 224) + d - 128), 64 * (64 * (c - 224) + d - 128) + 63)).2 = 0
        rw [e2, e3] at h
        rw [judge_no]
        simp only
        split at h <;> split at h <;> omega
    · obtain ⟨e1, e2, e3, e4⟩ := need4 (by omega) h2
      rw [beg_shape (by omega) e4 (by omega) (by simp)]
      by_cases g : d < 128 ∨ 192 ≤ d
      · rw [cont_bad g]
      · rw [cont_ok g]
        show (judge 4 65536 1114111 (64 * (64 * (64 * (c - 240) + d - 128)), 64 * (64 * (64 * (c - 240) + d - 128) + 63) + 63)).2 = 0
        rw [e2, e3] at h
        rw [judge_no]
        simp only
        split at h <;> split at h <;> omega
theorem beg2_yes {c d : Int} (h1 : 194 ≤ c) (h2 : c ≤ 244) (h : ok2 c d) : (beginsF [c, d]).2 = needN c ∧ (c ≤ 223 → (beginsF [c, d]).1 = c % 32 * 64 + d % 64) := by
  unfold ok2 at h
  by_cases a : c ≤ 223
  · obtain ⟨e1, e2, e3, e4⟩ := need2 h1 a
    rw [e2, e3] at h
    rw [beg_shape (by omega) e4 (by omega) (by simp), cont_ok (by omega), e1]
    show (judge 2 128 2047 (64 * (c - 192) + d - 128, 64 * (c - 192) + d - 128)).2 = 2 ∧ (c ≤ 223 → (judge 2 128 2047 (64 * (c - 192) + d - 128, 64 * (c - 192) + d - 128)).1 = _)
    rw [judge_yes (by simp only; omega)]
    exact ⟨rfl, fun _ => by simp only; omega⟩
  · refine ⟨?_, fun h => absurd h a⟩
    by_cases b : c ≤ 239
    · obtain ⟨e1, e2, e3, e4⟩ := need3 (by omega) b
      rw [e2, e3] at h
      have hd : 128 ≤ d ∧ d ≤ 191 := by split at h <;> split at h <;> omega
      rw [beg_shape (by omega) e4 (by omega) (by simp), cont_ok (by omega), e1]
      show (judge 3 2048 65535 (64 * (64 * (c - 224) + d - 128), 64 * (64 * (c - 224) + d - 128) + 63)).2 = 3
      rw [judge_yes]
      simp only
      split at h <;> split at h <;> omega
    · obtain ⟨e1, e2, e3, e4⟩ := need4 (by omega) h2
      rw [e2, e3] at h
      have hd : 128 ≤ d ∧ d ≤ 191 := by split at h <;> split at h <;> omega
      rw [beg_shape (by omega) e4 (by omega) (by simp), cont_ok (by omega), e1]
      show (judge 4 65536 1114111 (64 * (64 * (64 * (c - 240) + d - 128)), 64 * (64 * (64 * (c - 240) + d - 128) + 63) + 63)).2 = 4
      rw [judge_yes]
      simp only
      split at h <;> split at h <;> omega

/-- Three bytes. -/
theorem beg3_no {c d e : Int} (h1 : 224 ≤ c) (h2 : c ≤ 244) (h : ok2 c d) (he : ¬ (128 ≤ e ∧ e ≤ 191)) : (beginsF [c, d, e]).2 = 0 := by
  unfold ok2 at h
  by_cases b : c ≤ 239
  · obtain ⟨e1, e2, e3, e4⟩ := need3 (by omega) b
    rw [e2, e3] at h
    have hd : 128 ≤ d ∧ d ≤ 191 := by split at h <;> split at h <;> omega
    rw [beg_shape (by omega) e4 (by omega) (by simp), cont_ok (by omega), cont_bad (by omega)]
  · obtain ⟨e1, e2, e3, e4⟩ := need4 (by omega) h2
    rw [e2, e3] at h
    have hd : 128 ≤ d ∧ d ≤ 191 := by split at h <;> split at h <;> omega
    rw [beg_shape (by omega) e4 (by omega) (by simp), cont_ok (by omega), cont_bad (by omega)]
theorem beg3_yes {c d e : Int} (h1 : 224 ≤ c) (h2 : c ≤ 244) (h : ok2 c d) (he : 128 ≤ e ∧ e ≤ 191) : (beginsF [c, d, e]).2 = needN c ∧ (c ≤ 239 → (beginsF [c, d, e]).1 = (c % 16 * 64 + d % 64) * 64 + e % 64) := by
  unfold ok2 at h
  by_cases b : c ≤ 239
  · obtain ⟨e1, e2, e3, e4⟩ := need3 (by omega) b
    rw [e2, e3] at h
    have hd : 128 ≤ d ∧ d ≤ 191 := by split at h <;> split at h <;> omega
    rw [beg_shape (by omega) e4 (by omega) (by simp), cont_ok (by omega), cont_ok (by omega), e1]
    show (judge 3 2048 65535 (64 * (64 * (c - 224) + d - 128) + e - 128, 64 * (64 * (c - 224) + d - 128) + e - 128)).2 = 3 ∧ (c ≤ 239 → (judge 3 2048 65535 (64 * (64 * (c - 224) + d - 128) + e - 128, 64 * (64 * (c - 224) + d - 128) + e - 128)).1 = _)
    rw [judge_yes]
    · exact ⟨rfl, fun _ => by simp only; omega⟩
    · simp only
      split at h <;> split at h <;> omega
  · refine ⟨?_, fun h => absurd h b⟩
    obtain ⟨e1, e2, e3, e4⟩ := need4 (by omega) h2
    rw [e2, e3] at h
    have hd : 128 ≤ d ∧ d ≤ 191 := by split at h <;> split at h <;> omega
    rw [beg_shape (by omega) e4 (by omega) (by simp), cont_ok (by omega), cont_ok (by omega), e1]
    show (judge 4 65536 1114111 (64 * (64 * (64 * (c - 240) + d - 128) + e - 128), 64 * (64 * (64 * (c - 240) + d - 128) + e - 128) + 63)).2 = 4
    rw [judge_yes]
    simp only
    split at h <;> split at h <;> omega

/-- Four bytes. -/
theorem beg4_no {c d e f : Int} (h1 : 240 ≤ c) (h2 : c ≤ 244) (h : ok2 c d) (he : 128 ≤ e ∧ e ≤ 191) (hf : ¬ (128 ≤ f ∧ f ≤ 191)) : (beginsF [c, d, e, f]).2 = 0 := by
  unfold ok2 at h
  obtain ⟨e1, e2, e3, e4⟩ := need4 (by omega) h2
  rw [e2, e3] at h
  have hd : 128 ≤ d ∧ d ≤ 191 := by split at h <;> split at h <;> omega
  rw [beg_shape (by omega) e4 (by omega) (by simp), cont_ok (by omega), cont_ok (by omega), cont_bad (by omega)]
theorem beg4_yes {c d e f : Int} (h1 : 240 ≤ c) (h2 : c ≤ 244) (h : ok2 c d) (he : 128 ≤ e ∧ e ≤ 191) (hf : 128 ≤ f ∧ f ≤ 191) : beginsF [c, d, e, f] = (((c % 8 * 64 + d % 64) * 64 + e % 64) * 64 + f % 64, 4) := by
  unfold ok2 at h
  obtain ⟨e1, e2, e3, e4⟩ := need4 (by omega) h2
  rw [e2, e3] at h
  have hd : 128 ≤ d ∧ d ≤ 191 := by split at h <;> split at h <;> omega
  rw [beg_shape (by omega) e4 (by omega) (by simp), cont_ok (by omega), cont_ok (by omega), cont_ok (by omega)]
  show judge 4 65536 1114111 (64 * (64 * (64 * (c - 240) + d - 128) + e - 128) + f - 128, 64 * (64 * (64 * (c - 240) + d - 128) + e - 128) + f - 128) = _
  rw [judge_yes]
  · simp only [Prod.mk.injEq, and_true]
    omega
  · simp only
    split at h <;> split at h <;> omega

/-- One round of the document's loop. -/
theorem atGo_short {l : List Int} {f k size : Nat} (h : l.length < k) : atGo l (f + 1) k size = (65533, size, false) := by
  show (if _ then _ else _) = _
  rw [if_pos h]
theorem atGo_none {l : List Int} {f k size : Nat} (h : ¬ l.length < k) (h0 : (beginsF (l.take k)).2 = 0) : atGo l (f + 1) k size = (65533, size, false) := by
  show (if _ then _ else _) = _
  rw [if_neg h]
  simp only
  rw [if_pos h0]
theorem atGo_hit {l : List Int} {f k size : Nat} (h : ¬ l.length < k) (h0 : (beginsF (l.take k)).2 = (k : Int)) (hk : 0 < k) : atGo l (f + 1) k size = ((beginsF (l.take k)).1, k, true) := by
  show (if _ then _ else _) = _
  rw [if_neg h]
  simp only
  rw [if_neg (by omega), if_pos h0, h0, Int.toNat_natCast]
theorem atGo_on {l : List Int} {f k size : Nat} (h : ¬ l.length < k) (h0 : (beginsF (l.take k)).2 ≠ 0) (h1 : (beginsF (l.take k)).2 ≠ (k : Int)) : atGo l (f + 1) k size = atGo l f (k + 1) k := by
  show (if _ then _ else _) = _
  rw [if_neg h]
  simp only
  rw [if_neg h0, if_neg h1]

theorem readF_no {c : Int} {t : List Int} (h : needN c = 0) : readF (c :: t) = (65533, 1, false) := by
  unfold readF
  simp only
  rw [if_pos h]
theorem readF_cut {c : Int} {t : List Int} (h : needN c ≠ 0) (hk : ((thereGo t ((needN c).toNat - 1) (needLo c) (needHi c) + 1 : Nat) : Int) < needN c) :
    readF (c :: t) = (65533, thereGo t ((needN c).toNat - 1) (needLo c) (needHi c) + 1, false) := by
  unfold readF
  simp only
  rw [if_neg h, if_pos hk]
theorem readF_whole {c : Int} {t : List Int} (h : needN c ≠ 0) (hk : ¬ ((thereGo t ((needN c).toNat - 1) (needLo c) (needHi c) + 1 : Nat) : Int) < needN c) :
    readF (c :: t) = (valueF ((c :: t).take (needN c).toNat), (needN c).toNat, true) := by
  unfold readF
  simp only
  rw [if_neg h, if_neg hk]

theorem there_nil (m : Nat) (lo hi : Int) : thereGo [] m lo hi = 0 := rfl
theorem there_bad {d : Int} {t : List Int} {m : Nat} {lo hi : Int} (h : ¬ (lo ≤ d ∧ d ≤ hi)) : thereGo (d :: t) (m + 1) lo hi = 0 := by
  show (if _ then _ else _) = _
  rw [if_neg h]
theorem there_ok {d : Int} {t : List Int} {m : Nat} {lo hi : Int} (h : lo ≤ d ∧ d ≤ hi) : thereGo (d :: t) (m + 1) lo hi = thereGo t m 128 191 + 1 := by
  show (if _ then _ else _) = _
  rw [if_pos h]
theorem there_0 (t : List Int) (lo hi : Int) : thereGo t 0 lo hi = 0 := by cases t <;> rfl

theorem atF_eq (l : List Int) (h0 : l ≠ []) (hb : ∀ x ∈ l, 0 ≤ x ∧ x ≤ 255) : atF l = readF l := by
  unfold atF
  match l, h0 with
  | c :: t, _ =>
    have hc := hb c (by simp)
    by_cases c1 : c < 128
    · have hn : needN c = 1 := by unfold needN; rw [if_pos c1]
      rw [atGo_hit (by simp) (by simp [beg1_small c1]) (by omega), readF_whole (by omega) (by rw [hn]; simp [there_0])]
      simp [beg1_small c1, hn, valueF]
    by_cases c2 : c < 194 ∨ 245 ≤ c
    · have hn : needN c = 0 := by unfold needN; rw [if_neg (by omega), if_neg (by omega), if_neg (by omega), if_neg (by omega)]
      rw [atGo_none (by simp) (by simpa using beg1_no (by omega) c2), readF_no hn]
    have h1 : 194 ≤ c := by omega
    have h2 : c ≤ 244 := by omega
    have hb1 := beg1_yes h1 h2
    have hn2 : 2 ≤ needN c ∧ needN c ≤ 4 := by
      by_cases a : c ≤ 223
      · have := (need2 h1 a).1; omega
      · by_cases b : c ≤ 239
        · have := (need3 (by omega) b).1; omega
        · have := (need4 (by omega) h2).1; omega
    obtain ⟨m, hm⟩ : ∃ m : Nat, (needN c).toNat - 1 = m + 1 := ⟨(needN c).toNat - 2, by omega⟩
    rw [atGo_on (by simp) (by simp; omega) (by simp; omega)]
    match t, hb with
    | [], _ =>
      rw [atGo_short (by simp), readF_cut (by omega) (by rw [there_nil]; omega), there_nil]
    | d :: t, hb =>
      have hd := hb d (by simp)
      by_cases o2 : ok2 c d
      case neg =>
        rw [atGo_none (by simp) (by simpa using beg2_no h1 h2 hd o2), readF_cut (by omega) (by rw [hm, there_bad o2]; omega), hm, there_bad o2]
      obtain ⟨hb2, hv2⟩ := beg2_yes h1 h2 o2
      by_cases a : c ≤ 223
      · have hn : needN c = 2 := (need2 h1 a).1
        obtain rfl : m = 0 := by omega
        rw [atGo_hit (by simp) (by simp; omega) (by omega), readF_whole (by omega) (by rw [hm, there_ok o2, there_0, hn]; simp)]
        have := hv2 a
        simp [this, hn, valueF, contGo, leadOf]
      have hn3 : 3 ≤ needN c := by
        by_cases b : c ≤ 239
        · have := (need3 (by omega) b).1; omega
        · have := (need4 (by omega) h2).1; omega
      obtain ⟨m, rfl⟩ : ∃ m' : Nat, m = m' + 1 := ⟨m - 1, by omega⟩
      rw [atGo_on (by simp) (by simp; omega) (by simp; omega)]
      match t, hb with
      | [], _ =>
        rw [atGo_short (by simp), readF_cut (by omega) (by rw [hm, there_ok o2, there_nil]; omega), hm, there_ok o2, there_nil]
      | e :: t, hb =>
        have he := hb e (by simp)
        by_cases o3 : 128 ≤ e ∧ e ≤ 191
        case neg =>
          rw [atGo_none (by simp) (by simpa using beg3_no (by omega) h2 o2 o3), readF_cut (by omega) (by rw [hm, there_ok o2, there_bad o3]; omega), hm, there_ok o2, there_bad o3]
        obtain ⟨hb3, hv3⟩ := beg3_yes (by omega) h2 o2 o3
        by_cases b : c ≤ 239
        · have hn : needN c = 3 := (need3 (by omega) b).1
          obtain rfl : m = 0 := by omega
          rw [atGo_hit (by simp) (by simp; omega) (by omega), readF_whole (by omega) (by rw [hm, there_ok o2, there_ok o3, there_0, hn]; simp)]
          have := hv3 b
          simp [this, hn, valueF, contGo, leadOf]
        have hn : needN c = 4 := (need4 (by omega) h2).1
        obtain rfl : m = 1 := by omega
        rw [atGo_on (by simp) (by simp; omega) (by simp; omega)]
        match t, hb with
        | [], _ =>
          rw [atGo_short (by simp), readF_cut (by omega) (by rw [hm, there_ok o2, there_ok o3, there_nil]; omega), hm, there_ok o2, there_ok o3, there_nil]
        | f :: t, hb =>
          have hf := hb f (by simp)
          by_cases o4 : 128 ≤ f ∧ f ≤ 191
          case neg =>
            rw [atGo_none (by simp) (by simpa using beg4_no (by omega) h2 o2 o3 o4), readF_cut (by omega) (by rw [hm, there_ok o2, there_ok o3, there_bad o4]; omega), hm, there_ok o2, there_ok o3, there_bad o4]
          have hb4 := beg4_yes (by omega) h2 o2 o3 o4
          rw [atGo_hit (by simp) (by simp [hb4]) (by omega), readF_whole (by omega) (by rw [hm, there_ok o2, there_ok o3, there_ok o4, there_0, hn]; simp)]
          simp [hb4, hn, valueF, contGo, leadOf]
end Go.Proofs.Ytalgldnnbjlokaa
