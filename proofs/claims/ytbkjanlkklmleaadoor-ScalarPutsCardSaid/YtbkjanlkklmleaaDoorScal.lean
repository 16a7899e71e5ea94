/- Bytes as scalars: the plain functions, after the program's text. No Go in sight. Bytes are integers from 0 to 255. -/
namespace Go.Proofs.YtbkjanlkklmleaaDoor

def needN (c : Int) : Int := if c < 128 then 1 else if 194 ≤ c ∧ c ≤ 223 then 2 else if 224 ≤ c ∧ c ≤ 239 then 3 else if 240 ≤ c ∧ c ≤ 244 then 4 else 0
def needLo (c : Int) : Int := if c = 224 then 160 else if c = 240 then 144 else 128
def needHi (c : Int) : Int := if c = 237 then 159 else if c = 244 then 143 else 191

/-- How many bytes more of a sequence stand there: of at most m. -/
def thereGo : List Int → Nat → Int → Int → Nat
  | [], _, _, _ => 0
  | _ :: _, 0, _, _ => 0
  | c :: t, m + 1, lo, hi => if lo ≤ c ∧ c ≤ hi then thereGo t m 128 191 + 1 else 0

def contGo : List Int → Int → Int
  | [], r => r
  | c :: t, r => contGo t (r * 64 + c % 64)

/-- What the first byte of a sequence of n bytes bears. -/
def leadOf (n : Nat) (c : Int) : Int := if n = 2 then c % 32 else if n = 3 then c % 16 else c % 8

def valueF : List Int → Int
  | [] => 0
  | [c] => c
  | c :: t => contGo t (leadOf (t.length + 1) c)

/-- What is read at the beginning of bytes that are not none: the scalar, its size, whether it is whole. -/
def readF (l : List Int) : Int × Nat × Bool :=
  match l with
  | [] => (0, 0, false)
  | c :: t =>
    if needN c = 0 then (65533, 1, false)
    else
      let k := thereGo t ((needN c).toNat - 1) (needLo c) (needHi c) + 1
      if (k : Int) < needN c then (65533, k, false) else (valueF (l.take (needN c).toNat), (needN c).toNat, true)

theorem thereGo_le : ∀ (l : List Int) (m : Nat) (lo hi : Int), thereGo l m lo hi ≤ l.length ∧ thereGo l m lo hi ≤ m
  | [], m, _, _ => ⟨Nat.le_refl _, Nat.zero_le _⟩
  | _ :: _, 0, _, _ => ⟨Nat.zero_le _, Nat.le_refl _⟩
  | c :: t, m + 1, lo, hi => by
    unfold thereGo
    have := thereGo_le t m 128 191
    split
    · simp only [List.length_cons]; omega
    · exact ⟨Nat.zero_le _, Nat.zero_le _⟩

theorem readF_size (c : Int) (t : List Int) : 1 ≤ (readF (c :: t)).2.1 ∧ (readF (c :: t)).2.1 ≤ t.length + 1 := by
  unfold readF
  have h := thereGo_le t ((needN c).toNat - 1) (needLo c) (needHi c)
  simp only
  split
  · exact ⟨Nat.le_refl _, by simp⟩
  · split
    · simp only; omega
    · simp only
      have : needN c = 1 ∨ needN c = 2 ∨ needN c = 3 ∨ needN c = 4 := by
        rename_i h0 _
        unfold needN at h0 ⊢
        repeat' split
        all_goals omega
      omega
end Go.Proofs.YtbkjanlkklmleaaDoor
