/- Texts of TkP, TkP2, TkP3, merged by a program of mine. -/
import Derived.Test.YtpnbkecchfhimaaGreatDoorMTg2
import Derived.Test.YtpnbkecchfhimaaGreatDoorMEn2
import Derived.Test.YtpnbkecchfhimaaGreatDoorMAn1

/- out of TkP -/
namespace Go.Proofs.YtpnbkecchfhimaaGreatDoor
set_option linter.unusedVariables false
set_option maxRecDepth 100000

/-- A token. -/
structure Tk where
  kind : Int
  fr : Nat
  til : Nat
  name : ByteArray
  r : Int
  single : Bool
/-- What begins at a place, but a text: its kind and size; whether raw bytes may follow. -/
structure Sp where
  kind : Int
  size : Nat
  name : ByteArray
  r : Int
  single : Bool
  raw : Bool
def noB : ByteArray := ⟨#[]⟩
def scriptB : ByteArray := ⟨#[115, 99, 114, 105, 112, 116]⟩
def styleB : ByteArray := ⟨#[115, 116, 121, 108, 101]⟩
def rawsB (x : ByteArray) : Bool := decide (x = scriptB) || decide (x = styleB)
def tagSp (m : Mk) : Sp := ⟨2 + m.kind, m.size, m.name, 0, m.single, decide (m.kind = 0) && m.closed && !m.single && rawsB m.name⟩
def specA (s : ByteArray) (i : Nat) : Option Sp :=
  if byt s i = 60 then (if (readV s i).2 = true then some (tagSp (readV s i).1) else none)
  else if byt s i = 38 then (entR s i).map fun p => ⟨1, p.2, noB, p.1, false, false⟩
  else if 0 < (readE s i).size then some ⟨6, (readE s i).size, noB, 0, false, false⟩ else none

/-- From i on the first place below n that is so; else n. -/
def scanG (p : Nat → Bool) : Nat → Nat → Nat
  | 0, i => i
  | f + 1, i => if p i = true then i else scanG p f (i + 1)
def scanTo (p : Nat → Bool) (n i : Nat) : Nat := scanG p (n - i) i
theorem scanG_ge (p : Nat → Bool) : ∀ f i, i ≤ scanG p f i ∧ scanG p f i ≤ i + f
  | 0, i => ⟨Nat.le_refl _, Nat.le_refl _⟩
  | f + 1, i => by
    unfold scanG
    split
    · omega
    · have := scanG_ge p f (i + 1); omega
theorem scanTo_ge (p : Nat → Bool) (n i : Nat) : i ≤ scanTo p n i := (scanG_ge p _ _).1
theorem scanTo_le (p : Nat → Bool) {n i : Nat} (h : i ≤ n) : scanTo p n i ≤ n := by
  have := (scanG_ge p (n - i) i).2
  unfold scanTo
  omega
theorem scanTo_stop {p : Nat → Bool} {n i : Nat} (h : i < n) (hp : p i = true) : scanTo p n i = i := by
  unfold scanTo
  rw [show n - i = (n - (i + 1)) + 1 by omega, scanG, if_pos hp]
theorem scanTo_step {p : Nat → Bool} {n i : Nat} (h : i < n) (hp : p i = false) : scanTo p n i = scanTo p n (i + 1) := by
  unfold scanTo
  rw [show n - i = (n - (i + 1)) + 1 by omega, scanG, if_neg (by rw [hp]; decide)]
theorem scanTo_end {p : Nat → Bool} {n i : Nat} (h : n ≤ i) : scanTo p n i = i := by
  unfold scanTo
  rw [show n - i = 0 by omega, scanG]
theorem scanTo_at {p : Nat → Bool} {n i : Nat} (h : scanTo p n i < n) : p (scanTo p n i) = true := by
  have : ∀ f i, scanG p f i < i + f → p (scanG p f i) = true := by
    intro f
    induction f with
    | zero => intro i h; unfold scanG at h; omega
    | succ f ih =>
      intro i h
      unfold scanG at h ⊢
      split
      · assumption
      · rename_i hp
        rw [if_neg hp] at h
        exact ih (i + 1) (by omega)
  have hge := scanTo_ge p n i
  refine this (n - i) i ?_
  unfold scanTo at h hge
  omega
theorem scanTo_shift {p q : Nat → Bool} {n k : Nat} (h : ∀ j, p (k + j) = q j) (i : Nat) : scanTo p (k + n) (k + i) = k + scanTo q n i := by
  have : ∀ f i, scanG p f (k + i) = k + scanG q f i := by
    intro f
    induction f with
    | zero => intro i; rfl
    | succ f ih =>
      intro i
      unfold scanG
      rw [h i]
      split
      · rfl
      · exact ih (i + 1)
  unfold scanTo
  rw [show k + n - (k + i) = n - i by omega]
  exact this _ _

def specB (s : ByteArray) (i : Nat) : Bool := (specA s i).isSome
/-- Does the end tag of a name stand here? -/
def closesB (s name : ByteArray) (j : Nat) : Bool :=
  decide (j + 2 + name.size ≤ s.size) && decide (byt s j = 60) && decide (byt s (j + 1) = 47) && decide (lowerB (s.extract (j + 2) (j + 2 + name.size)) = name) &&
  (decide (j + 2 + name.size = s.size) || (blankB (byt s (j + 2 + name.size)) || decide (byt s (j + 2 + name.size) = 47) || decide (byt s (j + 2 + name.size) = 62)))
def textE (s : ByteArray) (i : Nat) : Nat := scanTo (specB s) s.size (i + 1)
def rawE (s name : ByteArray) (i : Nat) : Nat := scanTo (closesB s name) s.size i
def spTk (i : Nat) (sp : Sp) : Tk := ⟨sp.kind, i, i + sp.size, sp.name, sp.r, sp.single⟩
def textTk (i e : Nat) : Tk := ⟨0, i, e, noB, 0, false⟩
def rawTk (i e : Nat) : Tk := ⟨7, i, e, noB, 0, false⟩
/-- What begins at a place: one token, or a tag and the raw bytes behind it; and where it ends. -/
def stpT (s : ByteArray) (i : Nat) : List Tk × Nat :=
  match specA s i with
  | none => ([textTk i (textE s i)], textE s i)
  | some sp => if sp.raw = true ∧ i + sp.size < rawE s sp.name (i + sp.size) then ([spTk i sp, rawTk (i + sp.size) (rawE s sp.name (i + sp.size))], rawE s sp.name (i + sp.size)) else ([spTk i sp], i + sp.size)
def toksF : Nat → ByteArray → Nat → List Tk
  | 0, _, _ => []
  | f + 1, s, i => if i < s.size then (stpT s i).1 ++ toksF f s (stpT s i).2 else []
def toksAt (s : ByteArray) (i : Nat) : List Tk := toksF (s.size - i) s i
def toks (s : ByteArray) : List Tk := toksAt s 0

theorem restGo_le (s : ByteArray) : ∀ (f i : Nat) (acc), i ≤ s.size → (restGo s f i acc).at_ ≤ s.size
  | 0, i, acc, hi => hi
  | f + 1, i, acc, hi => by
    have h1 := passTo_le skipC s hi
    unfold restGo
    split
    · exact h1
    · split
      · simp only; omega
      · have := attrV_bd s (passTo skipC s i) (by omega)
        exact restGo_le s f _ _ this.2
theorem upGo_bd (s e : ByteArray) : ∀ (f i z : Nat), upGo s e f i = some z → i + e.size ≤ z ∧ z ≤ s.size
  | 0, i, z, h => by cases h
  | f + 1, i, z, h => by
    unfold upGo at h
    split at h
    · split at h
      · injection h with h; omega
      · have := upGo_bd s e f (i + 1) z h; omega
    · cases h
theorem upToV_bd (s : ByteArray) (i : Nat) (kd : Int) (e : ByteArray) (h1 : 1 ≤ s.size) (hi : 1 ≤ i) : 1 ≤ (upToV s i kd e).size ∧ (upToV s i kd e).size ≤ s.size ∧ (upToV s i kd e).kind = kd := by
  unfold upToV
  cases h : upAt s e i with
  | none => exact ⟨h1, Nat.le_refl _, rfl⟩
  | some z =>
    have := upGo_bd s e _ i z h
    exact ⟨by show 1 ≤ z; omega, this.2, rfl⟩
theorem namedV_bd (s : ByteArray) (i : Nat) (kd : Int) (h1 : 1 ≤ i) (hi : i ≤ s.size) : 1 ≤ (namedV s i kd).size ∧ (namedV s i kd).size ≤ s.size ∧ (namedV s i kd).kind = kd := by
  have a1 := passTo_ge nameC s i
  have a2 := passTo_le nameC s hi
  have a3 := restAt_ge s (passTo nameC s i) [] a2
  have a4 := restGo_le s (s.size + 1 - passTo nameC s i) (passTo nameC s i) [] a2
  unfold namedV
  refine ⟨?_, a4, rfl⟩
  show 1 ≤ (restAt s (passTo nameC s i) []).at_
  omega
theorem headV_bd (t : ByteArray) (h2 : 2 ≤ t.size) (h : (headV t).2 = true) : 1 ≤ (headV t).1.size ∧ (headV t).1.size ≤ t.size ∧ 0 ≤ (headV t).1.kind ∧ (headV t).1.kind ≤ 3 := by
  unfold headV at h ⊢
  split
  · have := upToV_bd t 4 2 comE (by omega) (by decide)
    exact ⟨this.1, this.2.1, by rw [this.2.2]; decide, by rw [this.2.2]; decide⟩
  · rename_i hc
    rw [if_neg hc] at h
    split
    · rename_i hk
      have := namedV_bd t 2 1 (by decide) (by omega)
      exact ⟨this.1, this.2.1, by rw [this.2.2]; decide, by rw [this.2.2]; decide⟩
    · rename_i hk
      rw [if_neg hk] at h
      split
      · have := upToV_bd t 2 3 gtE (by omega) (by decide)
        exact ⟨this.1, this.2.1, by rw [this.2.2]; decide, by rw [this.2.2]; decide⟩
      · rename_i hm
        rw [if_neg hm] at h
        split
        · have := namedV_bd t 1 0 (by decide) (by omega)
          exact ⟨this.1, this.2.1, by rw [this.2.2]; decide, by rw [this.2.2]; decide⟩
        · rename_i hl
          rw [if_neg hl] at h
          cases h
theorem ext_size (s : ByteArray) (i : Nat) : (s.extract i s.size).size = s.size - i := by rw [ByteArray.size_extract]; omega
theorem readV_bd (s : ByteArray) (i : Nat) (h : (readV s i).2 = true) : 1 ≤ (readV s i).1.size ∧ i + (readV s i).1.size ≤ s.size ∧ 0 ≤ (readV s i).1.kind ∧ (readV s i).1.kind ≤ 3 := by
  unfold readV at h ⊢
  split
  · rename_i hc
    rw [if_pos hc] at h
    cases h
  · rename_i hc
    rw [if_neg hc] at h
    have h2 : 2 ≤ (s.extract (i : Int).toNat s.size).size := by rw [ext_size]; omega
    have := headV_bd _ h2 h
    rw [ext_size] at this
    exact ⟨this.1, by omega, this.2.2⟩
theorem entH_bd {t : ByteArray} {p : Int × Nat} (h : entH t = some p) : 1 ≤ p.2 ∧ p.2 ≤ t.size := by
  unfold entH at h
  split at h
  · cases h
  · rename_i hc
    split at h
    · rw [Option.map_eq_some_iff] at h
      obtain ⟨r, _, rfl⟩ := h
      exact ⟨by show 1 ≤ runE t + 1; omega, by show runE t + 1 ≤ t.size; omega⟩
    · injection h with h
      subst h
      exact ⟨by show 1 ≤ runE t + 1; omega, by show runE t + 1 ≤ t.size; omega⟩
theorem entR_bd {s : ByteArray} {i : Nat} {p : Int × Nat} (h : entR s i = some p) : 1 ≤ p.2 ∧ i + p.2 ≤ s.size := by
  unfold entR at h
  split at h
  · rename_i hc
    have := entH_bd h
    rw [ext_size] at this
    omega
  · cases h
theorem seqE_bd (t : ByteArray) (h2 : 2 ≤ t.size) : (seqE t).size ≤ t.size := by
  have h1 := passTo_le (amongB 48 63) t h2
  have h3 := passTo_le (amongB 32 47) t h1
  unfold seqE
  split
  · rename_i h; exact h.1
  · exact h3
theorem headE_bd (t : ByteArray) (h1 : 1 ≤ t.size) : (headE t).size ≤ t.size := by
  unfold headE
  split
  · exact h1
  · split
    · exact seqE_bd t (by omega)
    · split
      · show 2 ≤ _; omega
      · exact h1
theorem readE_bd (s : ByteArray) (i : Nat) (h : 0 < (readE s i).size) : i + (readE s i).size ≤ s.size := by
  unfold readE at h ⊢
  split
  · rename_i hc
    have := headE_bd (s.extract (i : Int).toNat s.size) (by rw [ext_size]; omega)
    rw [ext_size] at this
    omega
  · rename_i hc
    rw [if_neg hc] at h
    exact absurd h (by decide)
theorem specA_bd {s : ByteArray} {i : Nat} {sp : Sp} (h : specA s i = some sp) : 1 ≤ sp.size ∧ i + sp.size ≤ s.size ∧ 1 ≤ sp.kind ∧ sp.kind ≤ 6 := by
  unfold specA at h
  split at h
  · split at h
    · rename_i ho
      injection h with h
      subst h
      have := readV_bd s i ho
      refine ⟨this.1, this.2.1, ?_, ?_⟩
      · show 1 ≤ 2 + _; omega
      · show 2 + _ ≤ 6; omega
    · cases h
  · split at h
    · rw [Option.map_eq_some_iff] at h
      obtain ⟨p, hp, rfl⟩ := h
      have := entR_bd hp
      exact ⟨this.1, this.2, (by show (1 : Int) ≤ 1; decide), (by show (1 : Int) ≤ 6; decide)⟩
    · split at h
      · rename_i hs
        injection h with h
        subst h
        exact ⟨hs, readE_bd s i hs, (by show (1 : Int) ≤ 6; decide), (by show (6 : Int) ≤ 6; decide)⟩
      · cases h
/-- Raw bytes follow a start tag alone. -/
theorem specA_raw {s : ByteArray} {i : Nat} {sp : Sp} (h : specA s i = some sp) (hr : sp.raw = true) : sp.kind = 2 ∧ (sp.name = scriptB ∨ sp.name = styleB) := by
  unfold specA at h
  split at h
  · split at h
    · injection h with h
      subst h
      have hr : (decide ((readV s i).1.kind = 0) && (readV s i).1.closed && !(readV s i).1.single && rawsB (readV s i).1.name) = true := hr
      rw [Bool.and_eq_true, Bool.and_eq_true, Bool.and_eq_true] at hr
      have h1 : (readV s i).1.kind = 0 := of_decide_eq_true hr.1.1.1
      refine ⟨by show 2 + (readV s i).1.kind = 2; omega, ?_⟩
      have h2 := hr.2
      unfold rawsB at h2
      rw [Bool.or_eq_true, decide_eq_true_iff, decide_eq_true_iff] at h2
      exact h2
    · cases h
  · split at h
    · rw [Option.map_eq_some_iff] at h
      obtain ⟨p, hp, rfl⟩ := h
      cases hr
    · split at h
      · injection h with h
        subst h
        cases hr
      · cases h
theorem stpT_bd {s : ByteArray} {i : Nat} (h : i < s.size) : i < (stpT s i).2 ∧ (stpT s i).2 ≤ s.size := by
  unfold stpT
  cases hs : specA s i with
  | none =>
    have h1 := scanTo_ge (specB s) s.size (i + 1)
    have h2 := scanTo_le (specB s) (n := s.size) (i := i + 1) (by omega)
    exact ⟨by show i < textE s i; unfold textE; omega, h2⟩
  | some sp =>
    have hb := specA_bd hs
    simp only
    split
    · rename_i hc
      have h2 := scanTo_le (closesB s sp.name) (n := s.size) (i := i + sp.size) hb.2.1
      exact ⟨by show i < rawE s sp.name (i + sp.size); omega, h2⟩
    · exact ⟨by show i < i + sp.size; omega, hb.2.1⟩
theorem toksF_fuel (s : ByteArray) : ∀ (f g i : Nat), s.size - i ≤ f → s.size - i ≤ g → toksF f s i = toksF g s i := by
  intro f
  induction f with
  | zero =>
    intro g i h1 h2
    cases g with
    | zero => rfl
    | succ g => unfold toksF; rw [if_neg (by omega)]
  | succ f ih =>
    intro g i h1 h2
    cases g with
    | zero => unfold toksF; rw [if_neg (by omega)]
    | succ g =>
      unfold toksF
      by_cases hi : i < s.size
      · have := stpT_bd hi
        rw [if_pos hi, if_pos hi, ih g _ (by omega) (by omega)]
      · rw [if_neg hi, if_neg hi]
theorem toksAt_step {s : ByteArray} {i : Nat} (h : i < s.size) : toksAt s i = (stpT s i).1 ++ toksAt s (stpT s i).2 := by
  have := stpT_bd h
  unfold toksAt
  rw [show s.size - i = (s.size - i - 1) + 1 by omega, toksF, if_pos h, toksF_fuel s (s.size - i - 1) (s.size - (stpT s i).2) _ (by omega) (by omega)]
theorem toksAt_end {s : ByteArray} {i : Nat} (h : s.size ≤ i) : toksAt s i = [] := by
  unfold toksAt
  rw [show s.size - i = 0 by omega]
  rfl
theorem toksAt_text {s : ByteArray} {i : Nat} (h : i < s.size) (hs : specA s i = none) : toksAt s i = textTk i (textE s i) :: toksAt s (textE s i) := by
  rw [toksAt_step h]
  unfold stpT
  rw [hs]
  rfl
theorem toksAt_spec {s : ByteArray} {i : Nat} {sp : Sp} (h : i < s.size) (hs : specA s i = some sp) (hr : ¬ (sp.raw = true ∧ i + sp.size < rawE s sp.name (i + sp.size))) : toksAt s i = spTk i sp :: toksAt s (i + sp.size) := by
  rw [toksAt_step h]
  unfold stpT
  rw [hs]
  simp only
  rw [if_neg hr]
  rfl
theorem toksAt_raw {s : ByteArray} {i : Nat} {sp : Sp} (h : i < s.size) (hs : specA s i = some sp) (hr : sp.raw = true ∧ i + sp.size < rawE s sp.name (i + sp.size)) : toksAt s i = spTk i sp :: rawTk (i + sp.size) (rawE s sp.name (i + sp.size)) :: toksAt s (rawE s sp.name (i + sp.size)) := by
  rw [toksAt_step h]
  unfold stpT
  rw [hs]
  simp only
  rw [if_pos hr]
  rfl
/-- A token is within the bytes. -/
theorem toksAt_mem (s : ByteArray) : ∀ (f i : Nat), s.size - i ≤ f → ∀ t ∈ toksAt s i, i ≤ t.fr ∧ t.fr < t.til ∧ t.til ≤ s.size ∧ 0 ≤ t.kind ∧ t.kind ≤ 7 := by
  intro f
  induction f with
  | zero =>
    intro i h t ht
    rw [toksAt_end (by omega)] at ht
    cases ht
  | succ f ih =>
    intro i h t ht
    by_cases hi : i < s.size
    · cases hs : specA s i with
      | none =>
        have h1 := scanTo_ge (specB s) s.size (i + 1)
        have h2 := scanTo_le (specB s) (n := s.size) (i := i + 1) (by omega)
        rw [toksAt_text hi hs] at ht
        rcases List.mem_cons.1 ht with rfl | ht
        · exact ⟨Nat.le_refl _, by show i < textE s i; unfold textE; omega, h2, (by show (0 : Int) ≤ 0; decide), (by show (0 : Int) ≤ 7; decide)⟩
        · have := ih (textE s i) (by unfold textE; omega) t ht
          unfold textE at this
          omega
      | some sp =>
        have hb := specA_bd hs
        by_cases hr : sp.raw = true ∧ i + sp.size < rawE s sp.name (i + sp.size)
        · have h2 := scanTo_le (closesB s sp.name) (n := s.size) (i := i + sp.size) hb.2.1
          rw [toksAt_raw hi hs hr] at ht
          rcases List.mem_cons.1 ht with rfl | ht
          · exact ⟨Nat.le_refl _, by show i < i + sp.size; omega, hb.2.1, by show 0 ≤ sp.kind; omega, by show sp.kind ≤ 7; omega⟩
          · rcases List.mem_cons.1 ht with rfl | ht
            · exact ⟨by show i ≤ i + sp.size; omega, hr.2, h2, (by show (0 : Int) ≤ 7; decide), (by show (7 : Int) ≤ 7; decide)⟩
            · have := ih (rawE s sp.name (i + sp.size)) (by omega) t ht
              omega
        · rw [toksAt_spec hi hs hr] at ht
          rcases List.mem_cons.1 ht with rfl | ht
          · exact ⟨Nat.le_refl _, by show i < i + sp.size; omega, hb.2.1, by show 0 ≤ sp.kind; omega, by show sp.kind ≤ 7; omega⟩
          · have := ih (i + sp.size) (by omega) t ht
            omega
    · rw [toksAt_end (by omega)] at ht
      cases ht
theorem toks_mem {s : ByteArray} {t : Tk} (h : t ∈ toks s) : t.fr < t.til ∧ t.til ≤ s.size ∧ 0 ≤ t.kind ∧ t.kind ≤ 7 := (toksAt_mem s _ 0 (Nat.le_refl _) t h).2
theorem toksAt_len (s : ByteArray) : ∀ (f i : Nat), s.size - i ≤ f → (toksAt s i).length ≤ s.size - i := by
  intro f
  induction f with
  | zero =>
    intro i h
    rw [toksAt_end (by omega)]
    exact Nat.zero_le _
  | succ f ih =>
    intro i h
    by_cases hi : i < s.size
    · cases hs : specA s i with
      | none =>
        have h1 := scanTo_ge (specB s) s.size (i + 1)
        rw [toksAt_text hi hs, List.length_cons]
        have := ih (textE s i) (by unfold textE; omega)
        unfold textE at *
        omega
      | some sp =>
        have hb := specA_bd hs
        by_cases hr : sp.raw = true ∧ i + sp.size < rawE s sp.name (i + sp.size)
        · have h2 := scanTo_le (closesB s sp.name) (n := s.size) (i := i + sp.size) hb.2.1
          rw [toksAt_raw hi hs hr, List.length_cons, List.length_cons]
          have := ih (rawE s sp.name (i + sp.size)) (by omega)
          unfold rawE at *
          omega
        · rw [toksAt_spec hi hs hr, List.length_cons]
          have := ih (i + sp.size) (by omega)
          omega
    · rw [toksAt_end (by omega)]
      exact Nat.zero_le _
theorem toks_len (s : ByteArray) : (toks s).length ≤ s.size := by
  have := toksAt_len s _ 0 (Nat.le_refl _)
  unfold toks
  omega
end Go.Proofs.YtpnbkecchfhimaaGreatDoor

/- out of TkP2 -/
namespace Go.Proofs.YtpnbkecchfhimaaGreatDoor
set_option linter.unusedVariables false
set_option maxRecDepth 100000

/-- One byte more of text. -/
def addT (l : List Tk) (i : Nat) : List Tk := match l.getLast? with
  | some z => if z.kind = 0 then l.dropLast ++ [textTk z.fr (i + 1)] else l ++ [textTk i (i + 1)]
  | none => l ++ [textTk i (i + 1)]
theorem addT_on (l : List Tk) (fr e i : Nat) : addT (l ++ [textTk fr e]) i = l ++ [textTk fr (i + 1)] := by
  unfold addT
  rw [List.getLast?_concat]
  show (if (0 : Int) = 0 then (l ++ [textTk fr e]).dropLast ++ [textTk fr (i + 1)] else _) = _
  rw [if_pos rfl, List.dropLast_concat]
/-- No text stands last. -/
def NoTxt (l : List Tk) : Prop := ∀ z, l.getLast? = some z → z.kind ≠ 0
theorem addT_new {l : List Tk} (h : NoTxt l) (i : Nat) : addT l i = l ++ [textTk i (i + 1)] := by
  unfold addT
  cases hl : l.getLast? with
  | none => rfl
  | some z => simp only; rw [if_neg (h z hl)]
theorem NoTxt.snoc (l : List Tk) {z : Tk} (h : z.kind ≠ 0) : NoTxt (l ++ [z]) := fun y hy => by
  rw [List.getLast?_concat] at hy
  injection hy with hy
  subst hy
  exact h
def refF : Nat → ByteArray → Nat → ByteArray → List Tk → List Tk
  | 0, _, _, _, l => l
  | f + 1, s, i, nm, l =>
    if i < s.size then
      (if nm.size ≠ 0 ∧ closesB s nm i = false then refF f s (rawE s nm i) noB (l ++ [rawTk i (rawE s nm i)])
      else match specA s i with
        | none => refF f s (i + 1) noB (addT l i)
        | some sp => refF f s (i + sp.size) (if sp.raw = true then sp.name else noB) (l ++ [spTk i sp]))
    else l
theorem refF_end {s : ByteArray} {i : Nat} (h : s.size ≤ i) (nm : ByteArray) (l : List Tk) : ∀ f, refF f s i nm l = l
  | 0 => rfl
  | f + 1 => by unfold refF; rw [if_neg (by omega)]
theorem noB_size : noB.size = 0 := rfl
theorem refF_none {s : ByteArray} {i : Nat} (h : i < s.size) (hs : specA s i = none) (l : List Tk) (f : Nat) : refF (f + 1) s i noB l = refF f s (i + 1) noB (addT l i) := by
  rw [refF, if_pos h, if_neg (fun h => h.1 noB_size), hs]
theorem refF_some {s : ByteArray} {i : Nat} {sp : Sp} (h : i < s.size) (hs : specA s i = some sp) (l : List Tk) (f : Nat) : refF (f + 1) s i noB l = refF f s (i + sp.size) (if sp.raw = true then sp.name else noB) (l ++ [spTk i sp]) := by
  rw [refF, if_pos h, if_neg (fun h => h.1 noB_size), hs]
theorem refF_raw {s nm : ByteArray} {i : Nat} (h : i < s.size) (hn : nm.size ≠ 0) (hc : closesB s nm i = false) (l : List Tk) (f : Nat) : refF (f + 1) s i nm l = refF f s (rawE s nm i) noB (l ++ [rawTk i (rawE s nm i)]) := by
  rw [refF, if_pos h, if_pos ⟨hn, hc⟩]
theorem refF_shut {s nm : ByteArray} {i : Nat} (h : i < s.size) (hc : closesB s nm i = true) (l : List Tk) (f : Nat) : refF (f + 1) s i nm l = refF (f + 1) s i noB l := by
  rw [refF, refF, if_pos h, if_pos h, if_neg (fun h => by rw [hc] at h; exact absurd h.2 (by decide)), if_neg (fun h => h.1 noB_size)]
theorem name_pos {x : ByteArray} (h : x = scriptB ∨ x = styleB) : x.size ≠ 0 := by
  rcases h with rfl | rfl <;> decide
theorem refF_law (s : ByteArray) : ∀ (d i : Nat), s.size - i ≤ d → i ≤ s.size → ∀ f, s.size - i ≤ f →
    (∀ l, NoTxt l → refF f s i noB l = l ++ toksAt s i) ∧
    (∀ l fr, refF f s i noB (l ++ [textTk fr i]) = l ++ textTk fr (scanTo (specB s) s.size i) :: toksAt s (scanTo (specB s) s.size i)) ∧
    (∀ nm l, nm.size ≠ 0 → NoTxt l → refF f s i nm l = l ++ (if i < rawE s nm i then rawTk i (rawE s nm i) :: toksAt s (rawE s nm i) else toksAt s i)) := by
  intro d
  induction d with
  | zero =>
    intro i hd hi f hf
    have h : s.size ≤ i := by omega
    refine ⟨fun l hl => ?_, fun l fr => ?_, fun nm l hn hl => ?_⟩
    · rw [refF_end h, toksAt_end h, List.append_nil]
    · rw [refF_end h, scanTo_end h, toksAt_end h]
    · rw [refF_end h, if_neg (by unfold rawE; rw [scanTo_end h]; omega), toksAt_end h, List.append_nil]
  | succ d ih =>
    intro i hd hi f hf
    by_cases hi2 : i < s.size
    · obtain ⟨g, rfl⟩ : ∃ g, f = g + 1 := ⟨f - 1, by omega⟩
      -- what begins here, whatever stands ahead
      have hS : ∀ sp, specA s i = some sp → ∀ l, refF (g + 1) s i noB l = l ++ toksAt s i := by
        intro sp hs l
        have hb := specA_bd hs
        have hnt : NoTxt (l ++ [spTk i sp]) := NoTxt.snoc l (by show sp.kind ≠ 0; omega)
        obtain ⟨iA, _, iC⟩ := ih (i + sp.size) (by omega) hb.2.1 g (by omega)
        rw [refF_some hi2 hs]
        cases hr : sp.raw with
        | false =>
          rw [if_neg (by decide), iA _ hnt, toksAt_spec hi2 hs (fun h => by rw [hr] at h; exact absurd h.1 (by decide)), List.append_assoc]
          rfl
        | true =>
          rw [if_pos rfl, iC _ _ (name_pos (specA_raw hs hr).2) hnt, List.append_assoc]
          by_cases hlt : i + sp.size < rawE s sp.name (i + sp.size)
          · rw [if_pos hlt, toksAt_raw hi2 hs ⟨hr, hlt⟩]
            rfl
          · rw [if_neg hlt, toksAt_spec hi2 hs (fun h => hlt h.2)]
            rfl
      have hA : ∀ l, NoTxt l → refF (g + 1) s i noB l = l ++ toksAt s i := by
        intro l hl
        cases hs : specA s i with
        | some sp => exact hS sp hs l
        | none =>
          rw [refF_none hi2 hs, addT_new hl, (ih (i + 1) (by omega) (by omega) g (by omega)).2.1, toksAt_text hi2 hs]
          rfl
      refine ⟨hA, fun l fr => ?_, fun nm l hn hl => ?_⟩
      · cases hs : specA s i with
        | some sp =>
          have hst : scanTo (specB s) s.size i = i := scanTo_stop hi2 (by unfold specB; rw [hs]; rfl)
          rw [hS sp hs, hst, List.append_assoc]
          rfl
        | none =>
          rw [refF_none hi2 hs, addT_on, (ih (i + 1) (by omega) (by omega) g (by omega)).2.1, scanTo_step hi2 (by unfold specB; rw [hs]; rfl)]
      · cases hc : closesB s nm i with
        | true =>
          have hst : rawE s nm i = i := scanTo_stop hi2 hc
          rw [refF_shut hi2 hc, hA l hl, if_neg (by omega)]
        | false =>
          have h1 := scanTo_ge (closesB s nm) s.size (i + 1)
          have h2 := scanTo_le (closesB s nm) (n := s.size) (i := i + 1) (by omega)
          have he : rawE s nm i = scanTo (closesB s nm) s.size (i + 1) := scanTo_step hi2 hc
          rw [refF_raw hi2 hn hc, if_pos (by omega), (ih (rawE s nm i) (by omega) (by omega) g (by omega)).1 _ (NoTxt.snoc l (by show (7 : Int) ≠ 0; decide)), List.append_assoc]
          rfl
    · have h : s.size ≤ i := by omega
      refine ⟨fun l hl => ?_, fun l fr => ?_, fun nm l hn hl => ?_⟩
      · rw [refF_end h, toksAt_end h, List.append_nil]
      · rw [refF_end h, scanTo_end h, toksAt_end h]
      · rw [refF_end h, if_neg (by unfold rawE; rw [scanTo_end h]; omega), toksAt_end h, List.append_nil]
theorem ref_toks (s : ByteArray) : refF s.size s 0 noB [] = toks s := by
  have := (refF_law s s.size 0 (by omega) (Nat.zero_le _) s.size (by omega)).1 [] (fun z h => by cases h)
  rw [this]
  rfl

/-- Tokens, one behind another from a place to the end; behind one of a kind. -/
def tileP (n : Nat) : Nat → Int → List Tk → Prop
  | i, _, [] => i = n
  | i, pk, t :: r => t.fr = i ∧ i < t.til ∧ (0 ≤ t.kind ∧ t.kind ≤ 7) ∧ ¬ (t.kind = 0 ∧ pk = 0) ∧ (t.kind = 7 → pk = 2) ∧ tileP n t.til t.kind r
theorem toks_tile (s : ByteArray) : ∀ (d i : Nat) (pk : Int), s.size - i ≤ d → i ≤ s.size → (pk = 0 → i < s.size → specB s i = true) → tileP s.size i pk (toksAt s i) := by
  intro d
  induction d with
  | zero =>
    intro i pk hd hi hp
    rw [toksAt_end (by omega)]
    show i = s.size
    omega
  | succ d ih =>
    intro i pk hd hi hp
    by_cases hi2 : i < s.size
    · cases hs : specA s i with
      | none =>
        have h1 := scanTo_ge (specB s) s.size (i + 1)
        have h2 := scanTo_le (specB s) (n := s.size) (i := i + 1) (by omega)
        rw [toksAt_text hi2 hs]
        refine ⟨rfl, by show i < textE s i; unfold textE; omega, ⟨(by show (0 : Int) ≤ 0; decide), (by show (0 : Int) ≤ 7; decide)⟩, ?_, fun h => absurd (show (0 : Int) = 7 from h) (by decide), ?_⟩
        · rintro ⟨_, h⟩
          have := hp h hi2
          unfold specB at this
          rw [hs] at this
          cases this
        · exact ih (textE s i) 0 (by unfold textE; omega) h2 (fun _ h => scanTo_at h)
      | some sp =>
        have hb := specA_bd hs
        by_cases hr : sp.raw = true ∧ i + sp.size < rawE s sp.name (i + sp.size)
        · have h2 := scanTo_le (closesB s sp.name) (n := s.size) (i := i + sp.size) hb.2.1
          rw [toksAt_raw hi2 hs hr]
          refine ⟨rfl, by show i < i + sp.size; omega, ⟨by show 0 ≤ sp.kind; omega, by show sp.kind ≤ 7; omega⟩, ?_, ?_, ?_⟩
          · rintro ⟨h, _⟩
            have h : sp.kind = 0 := h
            omega
          · intro h
            have h : sp.kind = 7 := h
            omega
          · refine ⟨rfl, hr.2, ⟨(by show (0 : Int) ≤ 7; decide), (by show (7 : Int) ≤ 7; decide)⟩, fun h => absurd (show (7 : Int) = 0 from h.1) (by decide), fun _ => (specA_raw hs hr.1).1, ?_⟩
            exact ih (rawE s sp.name (i + sp.size)) 7 (by omega) h2 (fun h => absurd h (by decide))
        · rw [toksAt_spec hi2 hs hr]
          refine ⟨rfl, by show i < i + sp.size; omega, ⟨by show 0 ≤ sp.kind; omega, by show sp.kind ≤ 7; omega⟩, ?_, ?_, ?_⟩
          · rintro ⟨h, _⟩
            have h : sp.kind = 0 := h
            omega
          · intro h
            have h : sp.kind = 7 := h
            omega
          · refine ih (i + sp.size) sp.kind (by omega) hb.2.1 (fun h => ?_)
            omega
    · rw [toksAt_end (by omega)]
      show i = s.size
      omega
theorem toks_tiles (s : ByteArray) : tileP s.size 0 (-1) (toks s) := toks_tile s _ 0 (-1) (Nat.le_refl _) (Nat.zero_le _) (fun h => absurd h (by decide))

/-- From a place on. -/
theorem ext_extT (s : ByteArray) (k i : Nat) : (s.extract k s.size).extract i (s.extract k s.size).size = s.extract (k + i) s.size := by
  apply ByteArray.ext
  rw [ByteArray.data_extract, ByteArray.data_extract, ByteArray.data_extract, ext_size, Array.extract_extract]
  congr 1
  have : s.data.size = s.size := rfl
  omega
theorem byt_ext (s : ByteArray) (k i : Nat) (h : k + i < s.size) : byt (s.extract k s.size) i = byt s (k + i) := byt_extract s k s.size i (by omega) (Nat.le_refl _)
theorem specA_ext (s : ByteArray) (k i : Nat) (h : k + i < s.size) : specA (s.extract k s.size) i = specA s (k + i) := by
  have hb := byt_ext s k i h
  have hz := ext_size s k
  have hx := ext_extT s k i
  have e1 : readV (s.extract k s.size) (i : Int) = readV s ((k + i : Nat) : Int) := by
    unfold readV
    rw [Int.toNat_natCast, Int.toNat_natCast, hb, hx, hz]
    by_cases hc : ((k + i : Nat) : Int) < 0 ∨ (s.size : Int) - 1 ≤ ((k + i : Nat) : Int) ∨ byt s (k + i) ≠ 60
    · rw [if_pos hc, if_pos (by
        rcases hc with h | h | h
        · omega
        · exact .inr (.inl (by omega))
        · exact .inr (.inr h))]
    · rw [if_neg hc, if_neg (by
        rintro (h | h | h)
        · omega
        · exact hc (.inr (.inl (by omega)))
        · exact hc (.inr (.inr h)))]
  have e2 : entR (s.extract k s.size) (i : Int) = entR s ((k + i : Nat) : Int) := by
    unfold entR
    rw [Int.toNat_natCast, Int.toNat_natCast, hb, hx, hz]
    by_cases hc : byt s (k + i) = 38
    · rw [if_pos ⟨by omega, by omega, hc⟩, if_pos ⟨by omega, by omega, hc⟩]
    · rw [if_neg (fun h => hc h.2.2), if_neg (fun h => hc h.2.2)]
  have e3 : readE (s.extract k s.size) (i : Int) = readE s ((k + i : Nat) : Int) := by
    unfold readE
    rw [Int.toNat_natCast, Int.toNat_natCast, hb, hx, hz]
    by_cases hc : byt s (k + i) = 27
    · rw [if_pos ⟨by omega, by omega, hc⟩, if_pos ⟨by omega, by omega, hc⟩]
    · rw [if_neg (fun h => hc h.2.2), if_neg (fun h => hc h.2.2)]
  unfold specA
  rw [hb, e1, e2, e3]
end Go.Proofs.YtpnbkecchfhimaaGreatDoor

/- out of TkP3 -/
namespace Go.Proofs.YtpnbkecchfhimaaGreatDoor
set_option linter.unusedVariables false
set_option maxRecDepth 100000

theorem scanTo_shiftB {p q : Nat → Bool} {n k : Nat} (h : ∀ j, j < n → p (k + j) = q j) (i : Nat) : scanTo p (k + n) (k + i) = k + scanTo q n i := by
  have : ∀ f i, i + f ≤ n → scanG p f (k + i) = k + scanG q f i := by
    intro f
    induction f with
    | zero => intro i _; rfl
    | succ f ih =>
      intro i hf
      unfold scanG
      rw [h i (by omega)]
      split
      · rfl
      · exact ih (i + 1) (by omega)
  unfold scanTo
  rw [show k + n - (k + i) = n - i by omega]
  by_cases hn : i ≤ n
  · exact this _ _ (by omega)
  · rw [show n - i = 0 by omega]
    rfl
theorem ext_twoT (s : ByteArray) (k a b : Nat) (h : k + b ≤ s.size) : (s.extract k s.size).extract a b = s.extract (k + a) (k + b) := by
  apply ByteArray.ext
  rw [ByteArray.data_extract, ByteArray.data_extract, ByteArray.data_extract, Array.extract_extract]
  congr 1
  have : s.data.size = s.size := rfl
  omega
theorem closesB_ext (s nm : ByteArray) (k j : Nat) (h : k ≤ s.size) : closesB (s.extract k s.size) nm j = closesB s nm (k + j) := by
  unfold closesB
  have hz := ext_size s k
  by_cases h1 : k + j + 2 + nm.size ≤ s.size
  · rw [hz, decide_eq_true (show j + 2 + nm.size ≤ s.size - k by omega), decide_eq_true h1, byt_ext s k j (by omega), byt_ext s k (j + 1) (by omega), show k + (j + 1) = k + j + 1 by omega,
      ext_twoT s k _ _ (by omega), show k + (j + 2) = k + j + 2 by omega, show k + (j + 2 + nm.size) = k + j + 2 + nm.size by omega]
    by_cases h2 : k + j + 2 + nm.size = s.size
    · rw [decide_eq_true h2, decide_eq_true (show j + 2 + nm.size = s.size - k by omega)]
      simp only [Bool.true_or]
    · rw [decide_eq_false h2, decide_eq_false (show ¬ j + 2 + nm.size = s.size - k by omega), byt_ext s k _ (by omega), show k + (j + 2 + nm.size) = k + j + 2 + nm.size by omega]
  · rw [hz, decide_eq_false (show ¬ j + 2 + nm.size ≤ s.size - k by omega), decide_eq_false h1]
    simp only [Bool.false_and]
theorem textE_ext (s : ByteArray) (k i : Nat) (h : k ≤ s.size) : textE s (k + i) = k + textE (s.extract k s.size) i := by
  unfold textE
  have hz := ext_size s k
  have := scanTo_shiftB (p := specB s) (q := specB (s.extract k s.size)) (n := s.size - k) (k := k) (fun j hj => by unfold specB; rw [specA_ext s k j (by omega)]) (i + 1)
  rw [show k + (s.size - k) = s.size by omega] at this
  rw [hz, ← this]
  rfl
theorem rawE_ext (s nm : ByteArray) (k i : Nat) (h : k ≤ s.size) : rawE s nm (k + i) = k + rawE (s.extract k s.size) nm i := by
  unfold rawE
  have hz := ext_size s k
  have := scanTo_shiftB (p := closesB s nm) (q := closesB (s.extract k s.size) nm) (n := s.size - k) (k := k) (fun j hj => (closesB_ext s nm k j h).symm) i
  rw [show k + (s.size - k) = s.size by omega] at this
  rw [hz, ← this]
def Tk.up (k : Nat) (t : Tk) : Tk := ⟨t.kind, t.fr + k, t.til + k, t.name, t.r, t.single⟩
theorem toksAt_ext (s : ByteArray) (k : Nat) (hk : k ≤ s.size) : ∀ (d i : Nat), s.size - k - i ≤ d → toksAt s (k + i) = (toksAt (s.extract k s.size) i).map (Tk.up k) := by
  have hz := ext_size s k
  intro d
  induction d with
  | zero =>
    intro i hd
    rw [toksAt_end (by omega), toksAt_end (by omega)]
    rfl
  | succ d ih =>
    intro i hd
    by_cases hi : k + i < s.size
    · have hi2 : i < (s.extract k s.size).size := by omega
      have he := specA_ext s k i hi
      cases hs : specA s (k + i) with
      | none =>
        have hs2 : specA (s.extract k s.size) i = none := he.trans hs
        have h1 := scanTo_ge (specB (s.extract k s.size)) (s.extract k s.size).size (i + 1)
        rw [toksAt_text hi hs, toksAt_text hi2 hs2, textE_ext s k i hk, ih _ (by unfold textE; omega), List.map_cons]
        congr 1
        unfold Tk.up textTk
        simp only
        rw [Nat.add_comm i k, Nat.add_comm _ k]
      | some sp =>
        have hs2 : specA (s.extract k s.size) i = some sp := he.trans hs
        have hb := specA_bd hs
        have hre := rawE_ext s sp.name k (i + sp.size) hk
        rw [← Nat.add_assoc] at hre
        have hu : Tk.up k (spTk i sp) = spTk (k + i) sp := by
          unfold Tk.up spTk
          simp only
          rw [Nat.add_comm i k, show i + sp.size + k = k + i + sp.size by omega]
        by_cases hr : sp.raw = true ∧ k + i + sp.size < rawE s sp.name (k + i + sp.size)
        · have hr2 : sp.raw = true ∧ i + sp.size < rawE (s.extract k s.size) sp.name (i + sp.size) := ⟨hr.1, by have := hr.2; omega⟩
          rw [toksAt_raw hi hs hr, toksAt_raw hi2 hs2 hr2, hre, ih _ (by omega), List.map_cons, List.map_cons, hu]
          congr 2
          unfold Tk.up rawTk
          simp only
          rw [show i + sp.size + k = k + i + sp.size by omega, Nat.add_comm _ k]
        · have hr2 : ¬ (sp.raw = true ∧ i + sp.size < rawE (s.extract k s.size) sp.name (i + sp.size)) := fun h => hr ⟨h.1, by have := h.2; omega⟩
          rw [toksAt_spec hi hs hr, toksAt_spec hi2 hs2 hr2, List.map_cons, hu, Nat.add_assoc, ih _ (by omega)]
    · rw [toksAt_end (by omega), toksAt_end (by omega)]
      rfl
/-- From a token on that is not raw bytes. -/
theorem toksAt_drop (s : ByteArray) : ∀ (d i : Nat), s.size - i ≤ d → ∀ (j : Nat) (t : Tk), (toksAt s i)[j]? = some t → t.kind ≠ 7 → (toksAt s i).drop j = toksAt s t.fr := by
  intro d
  induction d with
  | zero =>
    intro i hd j t h
    rw [toksAt_end (by omega)] at h
    simp at h
  | succ d ih =>
    intro i hd j t h hk
    by_cases hi : i < s.size
    · cases hs : specA s i with
      | none =>
        have h1 := scanTo_ge (specB s) s.size (i + 1)
        cases j with
        | zero =>
          have h2 := h
          rw [toksAt_text hi hs] at h2
          simp at h2
          subst h2
          rfl
        | succ j =>
          rw [toksAt_text hi hs] at h ⊢
          exact ih _ (by unfold textE; omega) j t (by simpa using h) hk
      | some sp =>
        have hb := specA_bd hs
        cases j with
        | zero =>
          have h2 := h
          by_cases hr : sp.raw = true ∧ i + sp.size < rawE s sp.name (i + sp.size)
          · rw [toksAt_raw hi hs hr] at h2
            simp at h2
            subst h2
            rfl
          · rw [toksAt_spec hi hs hr] at h2
            simp at h2
            subst h2
            rfl
        | succ j =>
          by_cases hr : sp.raw = true ∧ i + sp.size < rawE s sp.name (i + sp.size)
          · rw [toksAt_raw hi hs hr] at h ⊢
            cases j with
            | zero =>
              simp at h
              subst h
              exact absurd rfl hk
            | succ j => exact ih _ (by omega) j t (by simpa using h) hk
          · rw [toksAt_spec hi hs hr] at h ⊢
            exact ih _ (by omega) j t (by simpa using h) hk
    · rw [toksAt_end (by omega)] at h
      simp at h
/-- The rest of all tokens, from one that is not raw bytes on, are those of the bytes from where it begins. -/
theorem toks_drop {s : ByteArray} {j : Nat} {t : Tk} (h : (toks s)[j]? = some t) (hk : t.kind ≠ 7) : (toks s).drop j = (toks (s.extract t.fr s.size)).map (Tk.up t.fr) := by
  have hm := toks_mem (List.mem_of_getElem? h)
  have h1 := toksAt_drop s _ 0 (Nat.le_refl _) j t h hk
  have h2 := toksAt_ext s t.fr (by omega) _ 0 (Nat.le_refl _)
  unfold toks at h ⊢
  rw [h1, ← h2]
  rfl
/-- The document's test of an end tag. -/
def ltsB : ByteArray := ⟨#[60, 47]⟩
theorem lowI_lt {c : Int} (h : lowI c = 60 ∨ lowI c = 47) : lowI c = c := by
  unfold lowI at h ⊢
  split
  · rename_i hc
    rw [if_pos hc] at h
    omega
  · rfl
theorem byt_lts : byt ltsB 0 = 60 ∧ byt ltsB 1 = 47 := by decide
theorem lower_ends (s nm : ByteArray) (j : Nat) (h : j + 2 + nm.size ≤ s.size) :
    lowerB (s.extract j (j + 2 + nm.size)) = ltsB ++ nm ↔ byt s j = 60 ∧ byt s (j + 1) = 47 ∧ lowerB (s.extract (j + 2) (j + 2 + nm.size)) = nm := by
  have hz : (s.extract j (j + 2 + nm.size)).size = 2 + nm.size := by rw [ByteArray.size_extract]; omega
  have hz2 : (s.extract (j + 2) (j + 2 + nm.size)).size = nm.size := by rw [ByteArray.size_extract]; omega
  have hl2 : ltsB.size = 2 := rfl
  have b0 : byt (lowerB (s.extract j (j + 2 + nm.size))) 0 = lowI (byt s j) := by rw [byt_lowerB _ _ (by omega), byt_extract _ _ _ _ (by omega) h]; rfl
  have b1 : byt (lowerB (s.extract j (j + 2 + nm.size))) 1 = lowI (byt s (j + 1)) := by rw [byt_lowerB _ _ (by omega), byt_extract _ _ _ _ (by omega) h]
  have b2 : ∀ k, k < nm.size → byt (lowerB (s.extract j (j + 2 + nm.size))) (2 + k) = byt (lowerB (s.extract (j + 2) (j + 2 + nm.size))) k := by
    intro k hk
    rw [byt_lowerB _ _ (by omega), byt_lowerB _ _ (by omega), byt_extract _ _ _ _ (by omega) h, byt_extract _ _ _ _ (by omega) h]
    congr 2
    omega
  constructor
  · intro e
    rw [e] at b0 b1 b2
    rw [byt_left _ _ _ (by rw [hl2]; omega), byt_lts.1] at b0
    rw [byt_left _ _ _ (by rw [hl2]; omega), byt_lts.2] at b1
    refine ⟨(lowI_lt (.inl b0.symm)).symm.trans b0.symm, (lowI_lt (.inr b1.symm)).symm.trans b1.symm, ?_⟩
    apply ext_byt
    · rw [lowerB_size, hz2]
    · intro k hk
      rw [lowerB_size, hz2] at hk
      rw [← b2 k hk]
      exact byt_right ltsB nm k
  · rintro ⟨h0, h1, h2⟩
    rw [h0] at b0
    rw [h1] at b1
    rw [h2] at b2
    apply ext_byt
    · rw [lowerB_size, hz, ByteArray.size_append, hl2]
    · intro k hk
      rw [lowerB_size, hz] at hk
      rcases (by omega : k = 0 ∨ k = 1 ∨ 2 ≤ k) with rfl | rfl | hk2
      · rw [b0, byt_left _ _ _ (by rw [hl2]; omega), byt_lts.1]
        rfl
      · rw [b1, byt_left _ _ _ (by rw [hl2]; omega), byt_lts.2]
        rfl
      · obtain ⟨d, rfl⟩ : ∃ d, k = 2 + d := ⟨k - 2, by omega⟩
        rw [b2 d (by omega)]
        exact (byt_right ltsB nm d).symm
theorem closesB_ref (s nm : ByteArray) (j : Nat) : closesB s nm j = (decide (j + 2 + nm.size ≤ s.size) && decide (lowerB (s.extract j (j + 2 + nm.size)) = ltsB ++ nm) &&
    (decide (j + 2 + nm.size = s.size) || (blankB (byt s (j + 2 + nm.size)) || decide (byt s (j + 2 + nm.size) = 47) || decide (byt s (j + 2 + nm.size) = 62)))) := by
  unfold closesB
  by_cases h : j + 2 + nm.size ≤ s.size
  · have := lower_ends s nm j h
    rw [decide_eq_true h]
    by_cases h1 : lowerB (s.extract j (j + 2 + nm.size)) = ltsB ++ nm
    · obtain ⟨a, b, c⟩ := this.1 h1
      rw [decide_eq_true h1, decide_eq_true a, decide_eq_true b, decide_eq_true c]
      rfl
    · rw [decide_eq_false h1]
      by_cases a : byt s j = 60
      · by_cases b : byt s (j + 1) = 47
        · rw [decide_eq_false (fun c => h1 (this.2 ⟨a, b, c⟩))]
          simp
        · rw [decide_eq_false b]
          simp
      · rw [decide_eq_false a]
        simp
  · rw [decide_eq_false h]
    rfl
/-- The token of a byte: the first that has it. -/
def atT (l : List Tk) (i : Int) : Option Tk := l.find? fun t => decide ((t.fr : Int) ≤ i) && decide (i < (t.til : Int))
end Go.Proofs.YtpnbkecchfhimaaGreatDoor
