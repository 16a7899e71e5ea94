/- Chapter 19: tokens: the plain law. Of no program. -/
import Derived.Test.YtpnbkecchfhimaaGreatDoorMTg2
import Derived.Test.YtpnbkecchfhimaaGreatDoorMEn2
import Derived.Test.YtpnbkecchfhimaaGreatDoorMAn1
namespace Go.Proofs.YtpnbkecchfhimaaGreatDoor
set_option linter.unusedVariables false
set_option maxRecDepth 100000

/-- A token. -/
structure Tk where
  kind : Int
  fr : Nat
  til : Nat
  name : ByteArray
  r : Int
  single : Bool
/-- What begins at a place, but a text: its kind and size; whether raw bytes may follow. -/
structure Sp where
  kind : Int
  size : Nat
  name : ByteArray
  r : Int
  single : Bool
  raw : Bool
def noB : ByteArray := ⟨#[]⟩
def scriptB : ByteArray := ⟨#[115, 99, 114, 105, 112, 116]⟩
def styleB : ByteArray := ⟨#[115, 116, 121, 108, 101]⟩
def rawsB (x : ByteArray) : Bool := decide (x = scriptB) || decide (x = styleB)
def tagSp (m : Mk) : Sp := ⟨2 + m.kind, m.size, m.name, 0, m.single, decide (m.kind = 0) && m.closed && !m.single && rawsB m.name⟩
def specA (s : ByteArray) (i : Nat) : Option Sp :=
  if byt s i = 60 then (if (readV s i).2 = true then some (tagSp (readV s i).1) else none)
  else if byt s i = 38 then (entR s i).map fun p => ⟨1, p.2, noB, p.1, false, false⟩
  else if 0 < (readE s i).size then some ⟨6, (readE s i).size, noB, 0, false, false⟩ else none

/-- From i on the first place below n that is so; else n. -/
def scanG (p : Nat → Bool) : Nat → Nat → Nat
  | 0, i => i
  | f + 1, i => if p i = true then i else scanG p f (i + 1)
def scanTo (p : Nat → Bool) (n i : Nat) : Nat := scanG p (n - i) i
theorem scanG_ge (p : Nat → Bool) : ∀ f i, i ≤ scanG p f i ∧ scanG p f i ≤ i + f
  | 0, i => ⟨Nat.le_refl _, Nat.le_refl _⟩
  | f + 1, i => by
    unfold scanG
    split
    · omega
    · have := scanG_ge p f (i + 1); omega
theorem scanTo_ge (p : Nat → Bool) (n i : Nat) : i ≤ scanTo p n i := (scanG_ge p _ _).1
theorem scanTo_le (p : Nat → Bool) {n i : Nat} (h : i ≤ n) : scanTo p n i ≤ n := by
  have := (scanG_ge p (n - i) i).2
  unfold scanTo
  omega
theorem scanTo_stop {p : Nat → Bool} {n i : Nat} (h : i < n) (hp : p i = true) : scanTo p n i = i := by
  unfold scanTo
  rw [show n - i = (n - (i + 1)) + 1 by omega, scanG, if_pos hp]
theorem scanTo_step {p : Nat → Bool} {n i : Nat} (h : i < n) (hp : p i = false) : scanTo p n i = scanTo p n (i + 1) := by
  unfold scanTo
  rw [show n - i = (n - (i + 1)) + 1 by omega, scanG, if_neg (by rw [hp]; decide)]
theorem scanTo_end {p : Nat → Bool} {n i : Nat} (h : n ≤ i) : scanTo p n i = i := by
  unfold scanTo
  rw [show n - i = 0 by omega, scanG]
theorem scanTo_at {p : Nat → Bool} {n i : Nat} (h : scanTo p n i < n) : p (scanTo p n i) = true := by
  have : ∀ f i, scanG p f i < i + f → p (scanG p f i) = true := by
    intro f
    induction f with
    | zero => intro i h; unfold scanG at h; omega
    | succ f ih =>
      intro i h
      unfold scanG at h ⊢
      split
      · assumption
      · rename_i hp
        rw [if_neg hp] at h
        exact ih (i + 1) (by omega)
  have hge := scanTo_ge p n i
  refine this (n - i) i ?_
  unfold scanTo at h hge
  omega
theorem scanTo_shift {p q : Nat → Bool} {n k : Nat} (h : ∀ j, p (k + j) = q j) (i : Nat) : scanTo p (k + n) (k + i) = k + scanTo q n i := by
  have : ∀ f i, scanG p f (k + i) = k + scanG q f i := by
    intro f
    induction f with
    | zero => intro i; rfl
    | succ f ih =>
      intro i
      unfold scanG
      rw [h i]
      split
      · rfl
      · exact ih (i + 1)
  unfold scanTo
  rw [show k + n - (k + i) = n - i by omega]
  exact this _ _

def specB (s : ByteArray) (i : Nat) : Bool := (specA s i).isSome
/-- Does the end tag of a name stand here? -/
def closesB (s name : ByteArray) (j : Nat) : Bool :=
  decide (j + 2 + name.size ≤ s.size) && decide (byt s j = 60) && decide (byt s (j + 1) = 47) && decide (lowerB (s.extract (j + 2) (j + 2 + name.size)) = name) &&
  (decide (j + 2 + name.size = s.size) || (blankB (byt s (j + 2 + name.size)) || decide (byt s (j + 2 + name.size) = 47) || decide (byt s (j + 2 + name.size) = 62)))
def textE (s : ByteArray) (i : Nat) : Nat := scanTo (specB s) s.size (i + 1)
def rawE (s name : ByteArray) (i : Nat) : Nat := scanTo (closesB s name) s.size i
def spTk (i : Nat) (sp : Sp) : Tk := ⟨sp.kind, i, i + sp.size, sp.name, sp.r, sp.single⟩
def textTk (i e : Nat) : Tk := ⟨0, i, e, noB, 0, false⟩
def rawTk (i e : Nat) : Tk := ⟨7, i, e, noB, 0, false⟩
/-- What begins at a place: one token, or a tag and the raw bytes behind it; and where it ends. -/
def stpT (s : ByteArray) (i : Nat) : List Tk × Nat :=
  match specA s i with
  | none => ([textTk i (textE s i)], textE s i)
  | some sp => if sp.raw = true ∧ i + sp.size < rawE s sp.name (i + sp.size) then ([spTk i sp, rawTk (i + sp.size) (rawE s sp.name (i + sp.size))], rawE s sp.name (i + sp.size)) else ([spTk i sp], i + sp.size)
def toksF : Nat → ByteArray → Nat → List Tk
  | 0, _, _ => []
  | f + 1, s, i => if i < s.size then (stpT s i).1 ++ toksF f s (stpT s i).2 else []
def toksAt (s : ByteArray) (i : Nat) : List Tk := toksF (s.size - i) s i
def toks (s : ByteArray) : List Tk := toksAt s 0

theorem restGo_le (s : ByteArray) : ∀ (f i : Nat) (acc), i ≤ s.size → (restGo s f i acc).at_ ≤ s.size
  | 0, i, acc, hi => hi
  | f + 1, i, acc, hi => by
    have h1 := passTo_le skipC s hi
    unfold restGo
    split
    · exact h1
    · split
      · simp only; omega
      · have := attrV_bd s (passTo skipC s i) (by omega)
        exact restGo_le s f _ _ this.2
theorem upGo_bd (s e : ByteArray) : ∀ (f i z : Nat), upGo s e f i = some z → i + e.size ≤ z ∧ z ≤ s.size
  | 0, i, z, h => by cases h
  | f + 1, i, z, h => by
    unfold upGo at h
    split at h
    · split at h
      · injection h with h; omega
      · have := upGo_bd s e f (i + 1) z h; omega
    · cases h
theorem upToV_bd (s : ByteArray) (i : Nat) (kd : Int) (e : ByteArray) (h1 : 1 ≤ s.size) (hi : 1 ≤ i) : 1 ≤ (upToV s i kd e).size ∧ (upToV s i kd e).size ≤ s.size ∧ (upToV s i kd e).kind = kd := by
  unfold upToV
  cases h : upAt s e i with
  | none => exact ⟨h1, Nat.le_refl _, rfl⟩
  | some z =>
    have := upGo_bd s e _ i z h
    exact ⟨by show 1 ≤ z; omega, this.2, rfl⟩
theorem namedV_bd (s : ByteArray) (i : Nat) (kd : Int) (h1 : 1 ≤ i) (hi : i ≤ s.size) : 1 ≤ (namedV s i kd).size ∧ (namedV s i kd).size ≤ s.size ∧ (namedV s i kd).kind = kd := by
  have a1 := passTo_ge nameC s i
  have a2 := passTo_le nameC s hi
  have a3 := restAt_ge s (passTo nameC s i) [] a2
  have a4 := restGo_le s (s.size + 1 - passTo nameC s i) (passTo nameC s i) [] a2
  unfold namedV
  refine ⟨?_, a4, rfl⟩
  show 1 ≤ (restAt s (passTo nameC s i) []).at_
  omega
theorem headV_bd (t : ByteArray) (h2 : 2 ≤ t.size) (h : (headV t).2 = true) : 1 ≤ (headV t).1.size ∧ (headV t).1.size ≤ t.size ∧ 0 ≤ (headV t).1.kind ∧ (headV t).1.kind ≤ 3 := by
  unfold headV at h ⊢
  split
  · have := upToV_bd t 4 2 comE (by omega) (by decide)
    exact ⟨this.1, this.2.1, by rw [this.2.2]; decide, by rw [this.2.2]; decide⟩
  · rename_i hc
    rw [if_neg hc] at h
    split
    · rename_i hk
      have := namedV_bd t 2 1 (by decide) (by omega)
      exact ⟨this.1, this.2.1, by rw [this.2.2]; decide, by rw [this.2.2]; decide⟩
    · rename_i hk
      rw [if_neg hk] at h
      split
      · have := upToV_bd t 2 3 gtE (by omega) (by decide)
        exact ⟨this.1, this.2.1, by rw [this.2.2]; decide, by rw [this.2.2]; decide⟩
      · rename_i hm
        rw [if_neg hm] at h
        split
        · have := namedV_bd t 1 0 (by decide) (by omega)
          exact ⟨this.1, this.2.1, by rw [this.2.2]; decide, by rw [this.2.2]; decide⟩
        · rename_i hl
          rw [if_neg hl] at h
          cases h
theorem ext_size (s : ByteArray) (i : Nat) : (s.extract i s.size).size = s.size - i := by rw [ByteArray.size_extract]; omega
theorem readV_bd (s : ByteArray) (i : Nat) (h : (readV s i).2 = true) : 1 ≤ (readV s i).1.size ∧ i + (readV s i).1.size ≤ s.size ∧ 0 ≤ (readV s i).1.kind ∧ (readV s i).1.kind ≤ 3 := by
  unfold readV at h ⊢
  split
  · rename_i hc
    rw [if_pos hc] at h
    cases h
  · rename_i hc
    rw [if_neg hc] at h
    have h2 : 2 ≤ (s.extract (i : Int).toNat s.size).size := by rw [ext_size]; omega
    have := headV_bd _ h2 h
    rw [ext_size] at this
    exact ⟨this.1, by omega, this.2.2⟩
theorem entH_bd {t : ByteArray} {p : Int × Nat} (h : entH t = some p) : 1 ≤ p.2 ∧ p.2 ≤ t.size := by
  unfold entH at h
  split at h
  · cases h
  · rename_i hc
    split at h
    · rw [Option.map_eq_some_iff] at h
      obtain ⟨r, _, rfl⟩ := h
      exact ⟨by show 1 ≤ runE t + 1; omega, by show runE t + 1 ≤ t.size; omega⟩
    · injection h with h
      subst h
      exact ⟨by show 1 ≤ runE t + 1; omega, by show runE t + 1 ≤ t.size; omega⟩
theorem entR_bd {s : ByteArray} {i : Nat} {p : Int × Nat} (h : entR s i = some p) : 1 ≤ p.2 ∧ i + p.2 ≤ s.size := by
  unfold entR at h
  split at h
  · rename_i hc
    have := entH_bd h
    rw [ext_size] at this
    omega
  · cases h
theorem seqE_bd (t : ByteArray) (h2 : 2 ≤ t.size) : (seqE t).size ≤ t.size := by
  have h1 := passTo_le (amongB 48 63) t h2
  have h3 := passTo_le (amongB 32 47) t h1
  unfold seqE
  split
  · rename_i h; exact h.1
  · exact h3
theorem headE_bd (t : ByteArray) (h1 : 1 ≤ t.size) : (headE t).size ≤ t.size := by
  unfold headE
  split
  · exact h1
  · split
    · exact seqE_bd t (by omega)
    · split
      · show 2 ≤ _; omega
      · exact h1
theorem readE_bd (s : ByteArray) (i : Nat) (h : 0 < (readE s i).size) : i + (readE s i).size ≤ s.size := by
  unfold readE at h ⊢
  split
  · rename_i hc
    have := headE_bd (s.extract (i : Int).toNat s.size) (by rw [ext_size]; omega)
    rw [ext_size] at this
    omega
  · rename_i hc
    rw [if_neg hc] at h
    exact absurd h (by decide)
theorem specA_bd {s : ByteArray} {i : Nat} {sp : Sp} (h : specA s i = some sp) : 1 ≤ sp.size ∧ i + sp.size ≤ s.size ∧ 1 ≤ sp.kind ∧ sp.kind ≤ 6 := by
  unfold specA at h
  split at h
  · split at h
    · rename_i ho
      injection h with h
      subst h
      have := readV_bd s i ho
      refine ⟨this.1, this.2.1, ?_, ?_⟩
      · show 1 ≤ 2 + _; omega
      · show 2 + _ ≤ 6; omega
    · cases h
  · split at h
    · rw [Option.map_eq_some_iff] at h
      obtain ⟨p, hp, rfl⟩ := h
      have := entR_bd hp
      exact ⟨this.1, this.2, (by show (1 : Int) ≤ 1; decide), (by show (1 : Int) ≤ 6; decide)⟩
    · split at h
      · rename_i hs
        injection h with h
        subst h
        exact ⟨hs, readE_bd s i hs, (by show (1 : Int) ≤ 6; decide), (by show (6 : Int) ≤ 6; decide)⟩
      · cases h
/-- Raw bytes follow a start tag alone. -/
theorem specA_raw {s : ByteArray} {i : Nat} {sp : Sp} (h : specA s i = some sp) (hr : sp.raw = true) : sp.kind = 2 ∧ (sp.name = scriptB ∨ sp.name = styleB) := by
  unfold specA at h
  split at h
  · split at h
    · injection h with h
      subst h
      have hr : (decide ((readV s i).1.kind = 0) && (readV s i).1.closed && !(readV s i).1.single && rawsB (readV s i).1.name) = true := hr
      rw [Bool.and_eq_true, Bool.and_eq_true, Bool.and_eq_true] at hr
      have h1 : (readV s i).1.kind = 0 := of_decide_eq_true hr.1.1.1
      refine ⟨by show 2 + (readV s i).1.kind = 2; omega, ?_⟩
      have h2 := hr.2
      unfold rawsB at h2
      rw [Bool.or_eq_true, decide_eq_true_iff, decide_eq_true_iff] at h2
      exact h2
    · cases h
  · split at h
    · rw [Option.map_eq_some_iff] at h
      obtain ⟨p, hp, rfl⟩ := h
      cases hr
    · split at h
      · injection h with h
        subst h
        cases hr
      · cases h
theorem stpT_bd {s : ByteArray} {i : Nat} (h : i < s.size) : i < (stpT s i).2 ∧ (stpT s i).2 ≤ s.size := by
  unfold stpT
  cases hs : specA s i with
  | none =>
    have h1 := scanTo_ge (specB s) s.size (i + 1)
    have h2 := scanTo_le (specB s) (n := s.size) (i := i + 1) (by omega)
    exact ⟨by show i < textE s i; unfold textE; omega, h2⟩
  | some sp =>
    have hb := specA_bd hs
    simp only
    split
    · rename_i hc
      have h2 := scanTo_le (closesB s sp.name) (n := s.size) (i := i + sp.size) hb.2.1
      exact ⟨by show i < rawE s sp.name (i + sp.size); omega, h2⟩
    · exact ⟨by show i < i + sp.size; omega, hb.2.1⟩
theorem toksF_fuel (s : ByteArray) : ∀ (f g i : Nat), s.size - i ≤ f → s.size - i ≤ g → toksF f s i = toksF g s i := by
  intro f
  induction f with
  | zero =>
    intro g i h1 h2
    cases g with
    | zero => rfl
    | succ g => unfold toksF; rw [if_neg (by omega)]
  | succ f ih =>
    intro g i h1 h2
    cases g with
    | zero => unfold toksF; rw [if_neg (by omega)]
    | succ g =>
      unfold toksF
      by_cases hi : i < s.size
      · have := stpT_bd hi
        rw [if_pos hi, if_pos hi, ih g _ (by omega) (by omega)]
      · rw [if_neg hi, if_neg hi]
theorem toksAt_step {s : ByteArray} {i : Nat} (h : i < s.size) : toksAt s i = (stpT s i).1 ++ toksAt s (stpT s i).2 := by
  have := stpT_bd h
  unfold toksAt
  rw [show s.size - i = (s.size - i - 1) + 1 by omega, toksF, if_pos h, toksF_fuel s (s.size - i - 1) (s.size - (stpT s i).2) _ (by omega) (by omega)]
theorem toksAt_end {s : ByteArray} {i : Nat} (h : s.size ≤ i) : toksAt s i = [] := by
  unfold toksAt
  rw [show s.size - i = 0 by omega]
  rfl
theorem toksAt_text {s : ByteArray} {i : Nat} (h : i < s.size) (hs : specA s i = none) : toksAt s i = textTk i (textE s i) :: toksAt s (textE s i) := by
  rw [toksAt_step h]
  unfold stpT
  rw [hs]
  rfl
theorem toksAt_spec {s : ByteArray} {i : Nat} {sp : Sp} (h : i < s.size) (hs : specA s i = some sp) (hr : ¬ (sp.raw = true ∧ i + sp.size < rawE s sp.name (i + sp.size))) : toksAt s i = spTk i sp :: toksAt s (i + sp.size) := by
  rw [toksAt_step h]
  unfold stpT
  rw [hs]
  simp only
  rw [if_neg hr]
  rfl
theorem toksAt_raw {s : ByteArray} {i : Nat} {sp : Sp} (h : i < s.size) (hs : specA s i = some sp) (hr : sp.raw = true ∧ i + sp.size < rawE s sp.name (i + sp.size)) : toksAt s i = spTk i sp :: rawTk (i + sp.size) (rawE s sp.name (i + sp.size)) :: toksAt s (rawE s sp.name (i + sp.size)) := by
  rw [toksAt_step h]
  unfold stpT
  rw [hs]
  simp only
  rw [if_pos hr]
  rfl
/-- A token is within the bytes. -/
theorem toksAt_mem (s : ByteArray) : ∀ (f i : Nat), s.size - i ≤ f → ∀ t ∈ toksAt s i, i ≤ t.fr ∧ t.fr < t.til ∧ t.til ≤ s.size ∧ 0 ≤ t.kind ∧ t.kind ≤ 7 := by
  intro f
  induction f with
  | zero =>
    intro i h t ht
    rw [toksAt_end (by omega)] at ht
    cases ht
  | succ f ih =>
    intro i h t ht
    by_cases hi : i < s.size
    · cases hs : specA s i with
      | none =>
        have h1 := scanTo_ge (specB s) s.size (i + 1)
        have h2 := scanTo_le (specB s) (n := s.size) (i := i + 1) (by omega)
        rw [toksAt_text hi hs] at ht
        rcases List.mem_cons.1 ht with rfl | ht
        · exact ⟨Nat.le_refl _, by show i < textE s i; unfold textE; omega, h2, (by show (0 : Int) ≤ 0; decide), (by show (0 : Int) ≤ 7; decide)⟩
        · have := ih (textE s i) (by unfold textE; omega) t ht
          unfold textE at this
          omega
      | some sp =>
        have hb := specA_bd hs
        by_cases hr : sp.raw = true ∧ i + sp.size < rawE s sp.name (i + sp.size)
        · have h2 := scanTo_le (closesB s sp.name) (n := s.size) (i := i + sp.size) hb.2.1
          rw [toksAt_raw hi hs hr] at ht
          rcases List.mem_cons.1 ht with rfl | ht
          · exact ⟨Nat.le_refl _, by show i < i + sp.size; omega, hb.2.1, by show 0 ≤ sp.kind; omega, by show sp.kind ≤ 7; omega⟩
          · rcases List.mem_cons.1 ht with rfl | ht
            · exact ⟨by show i ≤ i + sp.size; omega, hr.2, h2, (by show (0 : Int) ≤ 7; decide), (by show (7 : Int) ≤ 7; decide)⟩
            · have := ih (rawE s sp.name (i + sp.size)) (by omega) t ht
              omega
        · rw [toksAt_spec hi hs hr] at ht
          rcases List.mem_cons.1 ht with rfl | ht
          · exact ⟨Nat.le_refl _, by show i < i + sp.size; omega, hb.2.1, by show 0 ≤ sp.kind; omega, by show sp.kind ≤ 7; omega⟩
          · have := ih (i + sp.size) (by omega) t ht
            omega
    · rw [toksAt_end (by omega)] at ht
      cases ht
theorem toks_mem {s : ByteArray} {t : Tk} (h : t ∈ toks s) : t.fr < t.til ∧ t.til ≤ s.size ∧ 0 ≤ t.kind ∧ t.kind ≤ 7 := (toksAt_mem s _ 0 (Nat.le_refl _) t h).2
theorem toksAt_len (s : ByteArray) : ∀ (f i : Nat), s.size - i ≤ f → (toksAt s i).length ≤ s.size - i := by
  intro f
  induction f with
  | zero =>
    intro i h
    rw [toksAt_end (by omega)]
    exact Nat.zero_le _
  | succ f ih =>
    intro i h
    by_cases hi : i < s.size
    · cases hs : specA s i with
      | none =>
        have h1 := scanTo_ge (specB s) s.size (i + 1)
        rw [toksAt_text hi hs, List.length_cons]
        have := ih (textE s i) (by unfold textE; omega)
        unfold textE at *
        omega
      | some sp =>
        have hb := specA_bd hs
        by_cases hr : sp.raw = true ∧ i + sp.size < rawE s sp.name (i + sp.size)
        · have h2 := scanTo_le (closesB s sp.name) (n := s.size) (i := i + sp.size) hb.2.1
          rw [toksAt_raw hi hs hr, List.length_cons, List.length_cons]
          have := ih (rawE s sp.name (i + sp.size)) (by omega)
          unfold rawE at *
          omega
        · rw [toksAt_spec hi hs hr, List.length_cons]
          have := ih (i + sp.size) (by omega)
          omega
    · rw [toksAt_end (by omega)]
      exact Nat.zero_le _
theorem toks_len (s : ByteArray) : (toks s).length ≤ s.size := by
  have := toksAt_len s _ 0 (Nat.le_refl _)
  unfold toks
  omega
end Go.Proofs.YtpnbkecchfhimaaGreatDoor
