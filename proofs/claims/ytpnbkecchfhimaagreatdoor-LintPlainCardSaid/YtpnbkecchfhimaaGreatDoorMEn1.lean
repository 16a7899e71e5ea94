/- Texts of an earlier chapter (En), merged by a program of mine. -/
import Derived.Test.YtpnbkecchfhimaaGreatDoorBase
import Derived.Test.YtpnbkecchfhimaaGreatDoorMem
import Derived.Test.YtpnbkecchfhimaaGreatDoorWords
import Derived.Test.YtpnbkecchfhimaaGreatDoorOpen
import Derived.Test.YtpnbkecchfhimaaGreatDoorByt
import Derived.Test.YtpnbkecchfhimaaGreatDoorInv
import Derived.BigQuiet
import Derived.Deep.Cut
import Derived.Deep.LoopGhost
import Derived.Deep.RegionWith
import Derived.Great.Walk
import Derived.Laws.BitsLemmas
import Derived.LoopN
import Derived.Shelf.Abstract
/- out of EnP -/
namespace Go.Proofs.YtpnbkecchfhimaaGreatDoor
set_option maxRecDepth 100000
set_option linter.unusedVariables false

def decP (c : Int) : Bool := decide (48 ≤ c ∧ c ≤ 57)
def hexP (c : Int) : Bool := decP c || (decide (97 ≤ c ∧ c ≤ 102) || decide (65 ≤ c ∧ c ≤ 70))
def letP (c : Int) : Bool := decide (97 ≤ c ∧ c ≤ 122)
/-- Where the bytes end, from i on, that are so; f of them at most. -/
def runTo (p : Int → Bool) (s : ByteArray) : Nat → Nat → Nat
  | 0, i => i
  | f + 1, i => if i < s.size ∧ p (byt s i) = true then runTo p s f (i + 1) else i
theorem runTo_ge (p : Int → Bool) (s : ByteArray) : ∀ f i, i ≤ runTo p s f i ∧ runTo p s f i ≤ i + f
  | 0, i => by simp [runTo]
  | f + 1, i => by
    unfold runTo
    split
    · have := runTo_ge p s f (i + 1); omega
    · omega
theorem runTo_le (p : Int → Bool) (s : ByteArray) : ∀ f i, i ≤ s.size → runTo p s f i ≤ s.size
  | 0, i, h => by simpa [runTo] using h
  | f + 1, i, h => by
    unfold runTo
    split
    · rename_i hc; exact runTo_le p s f (i + 1) hc.1
    · exact h
theorem runTo_all (p : Int → Bool) (s : ByteArray) : ∀ f i j, i ≤ j → j < runTo p s f i → j < s.size ∧ p (byt s j) = true
  | 0, i, j, h1, h2 => by simp only [runTo] at h2; omega
  | f + 1, i, j, h1, h2 => by
    unfold runTo at h2
    split at h2
    · rename_i hc
      by_cases h : j = i
      · subst h; exact hc
      · exact runTo_all p s f (i + 1) j (by omega) h2
    · omega
theorem runTo_is {p : Int → Bool} {s : ByteArray} {e : Nat} : ∀ (f i : Nat), i ≤ e → e ≤ i + f → (∀ j, i ≤ j → j < e → j < s.size ∧ p (byt s j) = true) → (s.size ≤ e ∨ p (byt s e) = false) → runTo p s f i = e
  | 0, i, h1, h2, _, _ => by simp only [runTo]; omega
  | f + 1, i, h1, h2, h3, h4 => by
    unfold runTo
    by_cases h : i = e
    · subst h
      rw [if_neg]
      rintro ⟨h5, h6⟩
      rcases h4 with h4 | h4
      · omega
      · rw [h4] at h6; cases h6
    · rw [if_pos (h3 i (Nat.le_refl _) (by omega))]
      exact runTo_is f (i + 1) (by omega) (by omega) (fun j h5 h6 => h3 j (by omega) h6) h4
theorem runTo_stop {p : Int → Bool} {s : ByteArray} : ∀ (f i : Nat), runTo p s f i = i + f ∨ s.size ≤ runTo p s f i ∨ p (byt s (runTo p s f i)) = false
  | 0, i => .inl (by simp [runTo])
  | f + 1, i => by
    unfold runTo
    split
    · rcases runTo_stop (p := p) (s := s) f (i + 1) with h | h | h
      · exact .inl (by omega)
      · exact .inr (.inl h)
      · exact .inr (.inr h)
    · rename_i hc
      right
      by_cases h : i < s.size
      · right
        cases hp : p (byt s i)
        · rfl
        · exact absurd ⟨h, hp⟩ hc
      · exact .inl (by omega)

/-- How a reference goes on: the bytes that begin it, how many may follow, and of which base: 0: a name. -/
structure Fm where
  skip : Nat
  most : Nat
  base : Nat
def Fm.p (f : Fm) : Int → Bool := if f.base = 0 then letP else if f.base = 10 then decP else hexP
def fmHex : Fm := ⟨3, 6, 16⟩
def fmDec : Fm := ⟨2, 7, 10⟩
def fmLet : Fm := ⟨1, 6, 0⟩
def isX (c : Int) : Prop := c = 120 ∨ c = 88
instance (c : Int) : Decidable (isX c) := inferInstanceAs (Decidable (_ ∨ _))
def fmOf (s : ByteArray) : Fm := if 3 ≤ s.size ∧ byt s 1 = 35 ∧ isX (byt s 2) then fmHex else if 2 ≤ s.size ∧ byt s 1 = 35 then fmDec else fmLet
/-- Where the bytes behind a reference's beginning end. -/
def runE (s : ByteArray) : Nat := runTo (fmOf s).p s (fmOf s).most (fmOf s).skip

def digV (c : Int) : Int := if decP c then c - 48 else if 97 ≤ c then c - 87 else c - 55
/-- The number of digits. -/
def numV (base : Int) (s : ByteArray) : Int := (intsOf s).foldl (fun n c => base * n + digV c) 0
def rightV (r : Int) : Prop := 0 ≤ r ∧ r ≤ 1114111 ∧ (r < 55296 ∨ 57343 < r)
instance (r : Int) : Decidable (rightV r) := inferInstanceAs (Decidable (_ ∧ _ ∧ _))
def scal (v : Int) : Int := if v = 0 ∨ ¬ rightV v then 65533 else v

def nm (l : List UInt8) : ByteArray := ⟨l.toArray⟩
/-- All names, and their scalars. -/
def names : List (ByteArray × Int) := [(nm [97, 109, 112], 38), (nm [97, 112, 111, 115], 39), (nm [99, 111, 112, 121], 169), (nm [101, 109, 115, 112], 8195), (nm [101, 110, 115, 112], 8194), (nm [103, 116], 62), (nm [104, 101, 108, 108, 105, 112], 8230), (nm [108, 97, 113, 117, 111], 171), (nm [108, 100, 113, 117, 111], 8220), (nm [108, 114, 109], 8206), (nm [108, 115, 113, 117, 111], 8216), (nm [108, 116], 60), (nm [109, 100, 97, 115, 104], 8212), (nm [109, 105, 100, 100, 111, 116], 183), (nm [110, 98, 115, 112], 160), (nm [110, 100, 97, 115, 104], 8211), (nm [113, 117, 111, 116], 34), (nm [114, 97, 113, 117, 111], 187), (nm [114, 100, 113, 117, 111], 8221), (nm [114, 101, 103], 174), (nm [114, 108, 109], 8207), (nm [114, 115, 113, 117, 111], 8217), (nm [115, 104, 121], 173), (nm [116, 104, 105, 110, 115, 112], 8201), (nm [122, 119, 106], 8205), (nm [122, 119, 110, 106], 8204)]
def findN (s : ByteArray) : Option Int := (names.find? fun x => decide (x.1 = s)).map (·.2)

/-- The reference that bytes begin with, of which the first one is &. -/
def entH (s : ByteArray) : Option (Int × Nat) :=
  if runE s = (fmOf s).skip ∨ s.size ≤ runE s ∨ byt s (runE s) ≠ 59 then none
  else if (fmOf s).base = 0 then (findN (s.extract (fmOf s).skip (runE s))).map fun r => (r, runE s + 1)
  else some (scal (numV (fmOf s).base (s.extract (fmOf s).skip (runE s))), runE s + 1)
def entR (s : ByteArray) (i : Int) : Option (Int × Nat) := if 0 ≤ i ∧ i < s.size ∧ byt s i.toNat = 38 then entH (s.extract i.toNat s.size) else none
/-- Does x begin with q? -/
def preB (x q : ByteArray) : Bool := decide (q.size ≤ x.size ∧ ∀ i, i < q.size → byt x i = byt q i)
/-- Could they become one? -/
def entO (s : ByteArray) : Bool := decide (0 < s.size ∧ byt s 0 = 38 ∧ s.size ≤ runE s) && (decide ((fmOf s).base ≠ 0) || names.any fun x => preB x.1 (s.extract (fmOf s).skip s.size))

/-- The document's: the number of digits, of which each is less than the base; below 0: none. -/
def allP (p : Int → Bool) (s : ByteArray) : Bool := (intsOf s).all p
def pOf (base : Nat) : Int → Bool := if base = 10 then decP else hexP
def refN (base most : Nat) (s : ByteArray) : Int := if s.size = 0 ∨ most < s.size ∨ allP (pOf base) s = false then -1 else scal (numV base s)
def refW (s : ByteArray) : Int :=
  if s.size < 3 ∨ byt s 0 ≠ 38 ∨ byt s (s.size - 1) ≠ 59 then -1
  else match findN (s.extract 1 (s.size - 1)) with
  | some r => r
  | none => if byt s 1 ≠ 35 then -1 else if 3 < s.size ∧ isX (byt s 2) then refN 16 6 (s.extract 3 (s.size - 1)) else refN 10 7 (s.extract 2 (s.size - 1))
/-- The first of the beginnings of n bytes and more that is one. -/
def refGo (s : ByteArray) (i : Nat) : Nat → Nat → Option (Int × Nat)
  | 0, _ => none
  | f + 1, n => if n ≤ 10 ∧ i + n ≤ s.size then (if 0 ≤ refW (s.extract i (i + n)) then some (refW (s.extract i (i + n)), n) else refGo s i f (n + 1)) else none
def refR (s : ByteArray) (i : Nat) : Option (Int × Nat) := refGo s i 8 3

def ampB : ByteArray := ⟨#[38]⟩
def refO (s : ByteArray) : Bool :=
  if s.size = 0 then false
  else if byt s 0 ≠ 38 then false
  else if s.size = 1 ∨ (byt s 1 = 35 ∧ (s.size = 2 ∨ s.size = 3 ∧ isX (byt s 2))) then true
  else (names.any fun x => preB (ampB ++ x.1) s) || (if 3 ≤ s.size ∧ byt s 1 = 35 ∧ isX (byt s 2) then decide (0 ≤ refN 16 6 (s.extract 3 s.size)) else decide (byt s 1 = 35) && decide (0 ≤ refN 10 7 (s.extract 2 s.size)))

theorem allP_iff (p : Int → Bool) (s : ByteArray) : allP p s = true ↔ ∀ i, i < s.size → p (byt s i) = true := by
  unfold allP
  rw [List.all_eq_true]
  constructor
  · intro h i hi
    have hl : i < (intsOf s).length := by rw [intsOf_len]; exact hi
    have := h _ (List.getElem_mem hl)
    rwa [show (intsOf s)[i] = byt s i by rw [← intsOf_get, List.getD_eq_getElem?_getD, List.getElem?_eq_getElem hl]; rfl] at this
  · intro h x hx
    obtain ⟨i, hi, rfl⟩ := List.mem_iff_getElem.1 hx
    have := h i (by rw [intsOf_len] at hi; exact hi)
    rwa [show byt s i = (intsOf s)[i] by rw [← intsOf_get, List.getD_eq_getElem?_getD, List.getElem?_eq_getElem hi]; rfl] at this
theorem names_ok : (names.all fun x => decide (2 ≤ x.1.size) && decide (x.1.size ≤ 6) && allP letP x.1 && decide (0 < x.2) && decide (rightV x.2)) = true := by kernel_rfl
theorem names_fact {x : ByteArray × Int} (h : x ∈ names) : 2 ≤ x.1.size ∧ x.1.size ≤ 6 ∧ (∀ i, i < x.1.size → letP (byt x.1 i) = true) ∧ 0 < x.2 ∧ rightV x.2 := by
  have := List.all_eq_true.1 names_ok x h
  simp only [Bool.and_eq_true, decide_eq_true_iff] at this
  obtain ⟨⟨⟨⟨h1, h2⟩, h3⟩, h4⟩, h5⟩ := this
  exact ⟨h1, h2, (allP_iff _ _).1 h3, h4, h5⟩
theorem findN_some {s : ByteArray} {r : Int} (h : findN s = some r) : ∃ x ∈ names, x.1 = s ∧ x.2 = r := by
  unfold findN at h
  obtain ⟨x, hx, rfl⟩ := Option.map_eq_some_iff.1 h
  exact ⟨x, List.mem_of_find?_eq_some hx, (by simpa using List.find?_some hx), rfl⟩
theorem findN_fact {s : ByteArray} {r : Int} (h : findN s = some r) : 2 ≤ s.size ∧ s.size ≤ 6 ∧ (∀ i, i < s.size → letP (byt s i) = true) ∧ 0 < r ∧ rightV r := by
  obtain ⟨x, hx, rfl, rfl⟩ := findN_some h
  exact names_fact hx
theorem let_35 {c : Int} (h : letP c = true) : c ≠ 35 := by
  have := of_decide_eq_true h
  omega
theorem dec_x {c : Int} (h : decP c = true) : ¬ isX c := by
  have := of_decide_eq_true h
  unfold isX
  omega
theorem p_59 (f : Fm) : f.p 59 = false := by
  unfold Fm.p
  split
  · decide
  · split <;> decide
theorem fm_cases (s : ByteArray) : (fmOf s = fmHex ∧ 3 ≤ s.size ∧ byt s 1 = 35 ∧ isX (byt s 2)) ∨ (fmOf s = fmDec ∧ 2 ≤ s.size ∧ byt s 1 = 35 ∧ ¬ (3 ≤ s.size ∧ isX (byt s 2))) ∨ (fmOf s = fmLet ∧ ¬ (2 ≤ s.size ∧ byt s 1 = 35)) := by
  unfold fmOf
  split
  · rename_i h; exact .inl ⟨rfl, h⟩
  · rename_i h1
    split
    · rename_i h2; exact .inr (.inl ⟨rfl, h2.1, h2.2, fun h => h1 ⟨h.1, h2.2, h.2⟩⟩)
    · rename_i h2; exact .inr (.inr ⟨rfl, h2⟩)
theorem fm_let {s : ByteArray} (h : ¬ (2 ≤ s.size ∧ byt s 1 = 35)) : fmOf s = fmLet := by
  unfold fmOf
  rw [if_neg (fun h2 => h ⟨by omega, h2.2.1⟩), if_neg h]
theorem fm_dec {s : ByteArray} (h : 2 ≤ s.size ∧ byt s 1 = 35) (hx : ¬ (3 ≤ s.size ∧ isX (byt s 2))) : fmOf s = fmDec := by
  unfold fmOf
  rw [if_neg (fun h2 => hx ⟨h2.1, h2.2.2⟩), if_pos h]
theorem fm_hex {s : ByteArray} (h : 3 ≤ s.size ∧ byt s 1 = 35 ∧ isX (byt s 2)) : fmOf s = fmHex := by
  unfold fmOf
  rw [if_pos h]
theorem scal_nonneg (v : Int) : 0 ≤ scal v := by
  unfold scal
  split
  · decide
  · rename_i h
    have : rightV v := Classical.byContradiction fun h2 => h (.inr h2)
    exact this.1
theorem refN_ok {base most : Nat} {s : ByteArray} (h : 0 ≤ refN base most s) : 0 < s.size ∧ s.size ≤ most ∧ (∀ i, i < s.size → pOf base (byt s i) = true) ∧ refN base most s = scal (numV base s) := by
  unfold refN at h ⊢
  split at h
  · exact absurd h (by decide)
  · rename_i hc
    rw [if_neg hc]
    refine ⟨by omega, by omega, (allP_iff _ _).1 ?_, rfl⟩
    cases ha : allP (pOf base) s
    · exact absurd (.inr (.inr ha)) hc
    · rfl
theorem refN_yes {base most : Nat} {s : ByteArray} (h0 : 0 < s.size) (h1 : s.size ≤ most) (h : ∀ i, i < s.size → pOf base (byt s i) = true) : refN base most s = scal (numV base s) := by
  unfold refN
  rw [if_neg]
  rintro (h2 | h2 | h2)
  · omega
  · omega
  · rw [(allP_iff _ _).2 h] at h2; cases h2
theorem ext_ext (t : ByteArray) {m a b : Nat} (hb : b ≤ m) (hm : m ≤ t.size) : (t.extract 0 m).extract a b = t.extract a b := by
  apply ext_byt
  · rw [ByteArray.size_extract, ByteArray.size_extract, ByteArray.size_extract]; omega
  · intro i hi
    rw [ByteArray.size_extract, ByteArray.size_extract] at hi
    rw [byt_extract _ a b i (by omega) (by rw [ByteArray.size_extract]; omega), byt_extract t 0 m (a + i) (by omega) hm, byt_extract t a b i (by omega) (by omega), Nat.zero_add]
theorem byt_ext0 (t : ByteArray) {m i : Nat} (hi : i < m) (hm : m ≤ t.size) : byt (t.extract 0 m) i = byt t i := by
  rw [byt_extract t 0 m i (by omega) hm, Nat.zero_add]
/-- What the document takes for a reference is one. -/
theorem whole_head {t : ByteArray} {m : Nat} (h3 : 3 ≤ m) (h10 : m ≤ 10) (hm : m ≤ t.size) (hw : 0 ≤ refW (t.extract 0 m)) : byt t 0 = 38 ∧ entH t = some (refW (t.extract 0 m), m) := by
  have hsz : (t.extract 0 m).size = m := by rw [ByteArray.size_extract]; omega
  have hb := fun i (hi : i < m) => byt_ext0 t hi hm
  have he := fun a b (h : b ≤ m) => ext_ext t (a := a) h hm
  unfold refW at hw ⊢
  rw [hsz] at hw ⊢
  by_cases hc : m < 3 ∨ byt (t.extract 0 m) 0 ≠ 38 ∨ byt (t.extract 0 m) (m - 1) ≠ 59
  · rw [if_pos hc] at hw; exact absurd hw (by decide)
  rw [if_neg hc] at hw ⊢
  have h38 : byt t 0 = 38 := by
    rw [← hb 0 (by omega)]
    exact Classical.byContradiction fun h => hc (.inr (.inl h))
  have h59 : byt t (m - 1) = 59 := by
    rw [← hb (m - 1) (by omega)]
    exact Classical.byContradiction fun h => hc (.inr (.inr h))
  refine ⟨h38, ?_⟩
  rw [he 1 (m - 1) (by omega), he 3 (m - 1) (by omega), he 2 (m - 1) (by omega), hb 1 (by omega), hb 2 (by omega)] at hw ⊢
  have hend : ∀ f : Fm, fmOf t = f → runE t = runTo f.p t f.most f.skip := by rintro f rfl; rfl
  cases hf : findN (t.extract 1 (m - 1)) with
  | some r =>
    obtain ⟨k1, k2, k3, _, _⟩ := findN_fact hf
    have hks : (t.extract 1 (m - 1)).size = m - 2 := by rw [ByteArray.size_extract]; omega
    have hkb : ∀ j, 1 ≤ j → j < m - 1 → letP (byt t j) = true := fun j h1 h2 => by
      have := k3 (j - 1) (by omega)
      rwa [byt_extract t 1 _ _ (by omega) (by omega), show 1 + (j - 1) = j by omega] at this
    have hfm : fmOf t = fmLet := fm_let fun h => let_35 (hkb 1 (by omega) (by omega)) h.2
    have hr : runE t = m - 1 := by
      rw [hend _ hfm]
      exact runTo_is _ _ (by show 1 ≤ _; omega) (by show _ ≤ 1 + 6; omega) (fun j h1 h2 => ⟨by omega, hkb j h1 h2⟩) (.inr (by rw [h59]; exact p_59 _))
    unfold entH
    rw [hr, hfm, if_neg (by show ¬ (_ = 1 ∨ _ ∨ _); rw [h59]; omega), if_pos (show fmLet.base = 0 from rfl)]
    show (findN (t.extract 1 (m - 1))).map _ = _
    rw [hf, show m - 1 + 1 = m by omega]
    rfl
  | none =>
    rw [hf] at hw
    simp only at hw ⊢
    by_cases h35 : byt t 1 ≠ 35
    · rw [if_pos h35] at hw; exact absurd hw (by decide)
    rw [if_neg h35] at hw ⊢
    have h35 : byt t 1 = 35 := Classical.byContradiction h35
    by_cases hx : 3 < m ∧ isX (byt t 2)
    · rw [if_pos hx] at hw ⊢
      obtain ⟨k1, k2, k3, k4⟩ := refN_ok hw
      have hks : (t.extract 3 (m - 1)).size = m - 1 - 3 := by rw [ByteArray.size_extract]; omega
      have hkb : ∀ j, 3 ≤ j → j < m - 1 → hexP (byt t j) = true := fun j h1 h2 => by
        have := k3 (j - 3) (by omega)
        rwa [byt_extract t 3 _ _ (by omega) (by omega), show 3 + (j - 3) = j by omega] at this
      have hfm : fmOf t = fmHex := fm_hex ⟨by omega, h35, hx.2⟩
      have hr : runE t = m - 1 := by
        rw [hend _ hfm]
        exact runTo_is _ _ (by show 3 ≤ _; omega) (by show _ ≤ 3 + 6; omega) (fun j h1 h2 => ⟨by omega, hkb j h1 h2⟩) (.inr (by rw [h59]; exact p_59 _))
      unfold entH
      rw [hr, hfm, if_neg (by show ¬ (_ = 3 ∨ _ ∨ _); rw [h59]; omega), if_neg (by decide), k4, show m - 1 + 1 = m by omega]
      rfl
    · rw [if_neg hx] at hw ⊢
      obtain ⟨k1, k2, k3, k4⟩ := refN_ok hw
      have hks : (t.extract 2 (m - 1)).size = m - 1 - 2 := by rw [ByteArray.size_extract]; omega
      have hkb : ∀ j, 2 ≤ j → j < m - 1 → decP (byt t j) = true := fun j h1 h2 => by
        have := k3 (j - 2) (by omega)
        rwa [byt_extract t 2 _ _ (by omega) (by omega), show 2 + (j - 2) = j by omega] at this
      have hfm : fmOf t = fmDec := fm_dec ⟨by omega, h35⟩ fun h => dec_x (hkb 2 (by omega) (by omega)) h.2
      have hr : runE t = m - 1 := by
        rw [hend _ hfm]
        exact runTo_is _ _ (by show 2 ≤ _; omega) (by show _ ≤ 2 + 7; omega) (fun j h1 h2 => ⟨by omega, hkb j h1 h2⟩) (.inr (by rw [h59]; exact p_59 _))
      unfold entH
      rw [hr, hfm, if_neg (by show ¬ (_ = 2 ∨ _ ∨ _); rw [h59]; omega), if_neg (by decide), k4, show m - 1 + 1 = m by omega]
      rfl
/-- And the other way. -/
theorem head_whole {t : ByteArray} {r : Int} {n : Nat} (h0 : byt t 0 = 38) (h : entH t = some (r, n)) : 3 ≤ n ∧ n ≤ 10 ∧ n ≤ t.size ∧ refW (t.extract 0 n) = r ∧ 0 ≤ r := by
  unfold entH at h
  split at h
  · cases h
  rename_i hc
  have hc1 : runE t ≠ (fmOf t).skip := fun h => hc (.inl h)
  have hc2 : runE t < t.size := by
    rcases Nat.lt_or_ge (runE t) t.size with h | h
    · exact h
    · exact absurd (.inr (.inl h)) hc
  have hc3 : byt t (runE t) = 59 := Classical.byContradiction fun h => hc (.inr (.inr h))
  have hge := runTo_ge (fmOf t).p t (fmOf t).most (fmOf t).skip
  have hall := fun j => runTo_all (fmOf t).p t (fmOf t).most (fmOf t).skip j
  change (fmOf t).skip ≤ runE t ∧ runE t ≤ _ at hge
  change ∀ j, _ → j < runE t → _ at hall
  generalize runE t = e at *
  have hsz : (t.extract 0 (e + 1)).size = e + 1 := by rw [ByteArray.size_extract]; omega
  have hb := fun i (hi : i < e + 1) => byt_ext0 t hi (show e + 1 ≤ t.size by omega)
  have he := fun a b (h : b ≤ e + 1) => ext_ext t (a := a) h (show e + 1 ≤ t.size by omega)
  have hw : 2 ≤ e → refW (t.extract 0 (e + 1)) = match findN (t.extract 1 e) with
      | some r => r
      | none => if byt t 1 ≠ 35 then -1 else if 3 < e + 1 ∧ isX (byt t 2) then refN 16 6 (t.extract 3 e) else refN 10 7 (t.extract 2 e) := by
    intro h2
    unfold refW
    rw [hsz, Nat.add_sub_cancel, if_neg (by rw [hb 0 (by omega), hb e (by omega)]; omega), he 1 e (by omega), he 3 e (by omega), he 2 e (by omega), hb 1 (by omega), hb 2 (by omega)]
  rcases fm_cases t with ⟨hf, k1, k2, k3⟩ | ⟨hf, k1, k2, k3⟩ | ⟨hf, k1⟩
  · rw [hf] at h hge hall hc1
    rw [if_neg (by decide)] at h
    simp only [Option.some.injEq, Prod.mk.injEq] at h
    obtain ⟨rfl, rfl⟩ := h
    have hg1 : 3 ≤ e := hge.1
    have hg2 : e ≤ 3 + 6 := hge.2
    have hg3 : e ≠ 3 := hc1
    have hno : findN (t.extract 1 e) = none := by
      cases hfi : findN (t.extract 1 e) with
      | none => rfl
      | some r =>
        obtain ⟨_, _, k5, _⟩ := findN_fact hfi
        have := k5 0 (by rw [ByteArray.size_extract]; omega)
        rw [byt_extract t 1 e 0 (by omega) (by omega)] at this
        exact absurd k2 (let_35 this)
    refine ⟨by omega, by omega, by omega, ?_, scal_nonneg _⟩
    rw [hw (by omega), hno]
    simp only
    rw [if_neg (by rw [k2]; decide), if_pos ⟨by omega, k3⟩]
    refine refN_yes (by rw [ByteArray.size_extract]; omega) (by rw [ByteArray.size_extract]; omega) fun i hi => ?_
    rw [ByteArray.size_extract] at hi
    rw [byt_extract t 3 e i (by omega) (by omega)]
    exact (hall (3 + i) (by show 3 ≤ _; omega) (by omega)).2
  · rw [hf] at h hge hall hc1
    rw [if_neg (by decide)] at h
    simp only [Option.some.injEq, Prod.mk.injEq] at h
    obtain ⟨rfl, rfl⟩ := h
    have hg1 : 2 ≤ e := hge.1
    have hg2 : e ≤ 2 + 7 := hge.2
    have hg3 : e ≠ 2 := hc1
    have hno : findN (t.extract 1 e) = none := by
      cases hfi : findN (t.extract 1 e) with
      | none => rfl
      | some r =>
        obtain ⟨_, _, k5, _⟩ := findN_fact hfi
        have := k5 0 (by rw [ByteArray.size_extract]; omega)
        rw [byt_extract t 1 e 0 (by omega) (by omega)] at this
        exact absurd k2 (let_35 this)
    refine ⟨by omega, by omega, by omega, ?_, scal_nonneg _⟩
    rw [hw (by omega), hno]
    simp only
    rw [if_neg (by rw [k2]; decide), if_neg (fun h => k3 ⟨by omega, h.2⟩)]
    refine refN_yes (by rw [ByteArray.size_extract]; omega) (by rw [ByteArray.size_extract]; omega) fun i hi => ?_
    rw [ByteArray.size_extract] at hi
    rw [byt_extract t 2 e i (by omega) (by omega)]
    exact (hall (2 + i) (by show 2 ≤ _; omega) (by omega)).2
  · rw [hf] at h hge hall hc1
    rw [if_pos (show fmLet.base = 0 from rfl)] at h
    obtain ⟨q, hq, hqe⟩ := Option.map_eq_some_iff.1 h
    simp only [Prod.mk.injEq] at hqe
    obtain ⟨rfl, rfl⟩ := hqe
    have hg1 : 1 ≤ e := hge.1
    have hg2 : e ≤ 1 + 6 := hge.2
    have hg3 : e ≠ 1 := hc1
    have hq' : findN (t.extract 1 e) = some q := hq
    refine ⟨by omega, by omega, by omega, ?_, Int.le_of_lt (findN_fact hq).2.2.2.1⟩
    rw [hw (by omega), hq']
theorem refGo_none {s : ByteArray} {i : Nat} (h : ∀ n, 3 ≤ n → n ≤ 10 → i + n ≤ s.size → refW (s.extract i (i + n)) < 0) : ∀ f n, 3 ≤ n → refGo s i f n = none
  | 0, _, _ => rfl
  | f + 1, n, hn => by
    unfold refGo
    split
    · rename_i hc
      rw [if_neg (by have := h n hn hc.1 hc.2; omega)]
      exact refGo_none h f (n + 1) (by omega)
    · rfl
theorem refGo_some {s : ByteArray} {i k : Nat} (hk : k ≤ 10) (hs : i + k ≤ s.size) (hw : 0 ≤ refW (s.extract i (i + k))) (h : ∀ n, 3 ≤ n → n < k → refW (s.extract i (i + n)) < 0) : ∀ f n, 3 ≤ n → n ≤ k → k < n + f → refGo s i f n = some (refW (s.extract i (i + k)), k)
  | 0, n, _, h1, h2 => by omega
  | f + 1, n, hn, h1, h2 => by
    unfold refGo
    rw [if_pos ⟨by omega, by omega⟩]
    by_cases he : n = k
    · subst he
      rw [if_pos hw]
    · rw [if_neg (by have := h n hn (by omega); omega)]
      exact refGo_some hk hs hw h f (n + 1) (by omega) (by omega) (by omega)
theorem ref_ent (s : ByteArray) (i : Nat) (hi : i < s.size) : refR s i = entR s i := by
  have hti : ((i : Int)).toNat = i := Int.toNat_natCast i
  have hts : (s.extract i s.size).size = s.size - i := by rw [ByteArray.size_extract]; omega
  have hex : ∀ n, i + n ≤ s.size → s.extract i (i + n) = (s.extract i s.size).extract 0 n := by
    intro n hn
    apply ext_byt
    · rw [ByteArray.size_extract, ByteArray.size_extract, ByteArray.size_extract]; omega
    · intro j hj
      rw [ByteArray.size_extract] at hj
      rw [byt_extract _ _ _ j (by omega) (by omega), byt_ext0 _ (by omega) (by omega), byt_extract _ _ _ j (by omega) (by omega)]
  have h0 : byt (s.extract i s.size) 0 = byt s i := by rw [byt_extract _ _ _ 0 (by omega) (by omega), Nat.add_zero]
  have hneg : entR s i = none → ∀ n, 3 ≤ n → n ≤ 10 → i + n ≤ s.size → refW (s.extract i (i + n)) < 0 := by
    intro he n h3 h10 hn
    rw [hex n hn]
    rcases Int.lt_or_le (refW ((s.extract i s.size).extract 0 n)) 0 with h | h
    · exact h
    · obtain ⟨k0, k1⟩ := whole_head h3 h10 (by omega) h
      unfold entR at he
      rw [hti, if_pos ⟨by omega, by omega, by rw [← h0]; exact k0⟩, k1] at he
      cases he
  cases he : entR s i with
  | none => exact refGo_none (hneg he) 8 3 (by decide)
  | some q =>
    obtain ⟨r, n⟩ := q
    unfold entR at he
    rw [hti] at he
    split at he
    case isFalse => cases he
    rename_i hc
    have h38 : byt (s.extract i s.size) 0 = 38 := by rw [h0]; exact hc.2.2
    obtain ⟨k3, k10, kn, kw, kr⟩ := head_whole h38 he
    have hin : i + n ≤ s.size := by omega
    unfold refR
    rw [refGo_some k10 hin (by rw [hex n hin, kw]; exact kr) (fun m h3 hm => ?_) 8 3 (by decide) k3 (by omega), hex n hin, kw]
    rw [hex m (by omega)]
    rcases Int.lt_or_le (refW ((s.extract i s.size).extract 0 m)) 0 with h | h
    · exact h
    · have := (whole_head h3 (by omega) (by omega) h).2
      rw [he] at this
      simp only [Option.some.injEq, Prod.mk.injEq] at this
      omega

end Go.Proofs.YtpnbkecchfhimaaGreatDoor

/- out of EnP2 -/
namespace Go.Proofs.YtpnbkecchfhimaaGreatDoor
set_option maxRecDepth 100000
set_option linter.unusedVariables false

theorem preB_iff (x q : ByteArray) : preB x q = true ↔ q.size ≤ x.size ∧ ∀ i, i < q.size → byt x i = byt q i := by
  unfold preB
  rw [decide_eq_true_iff]
theorem fm_eq {s : ByteArray} {f : Fm} (h : fmOf s = f) : runE s = runTo f.p s f.most f.skip := by subst h; rfl
/-- A name's beginning: the bytes behind the sign. -/
theorem let_run {s : ByteArray} (h0 : 0 < s.size) {x : ByteArray × Int} (hx : x ∈ names) (hp : preB x.1 (s.extract 1 s.size) = true) : fmOf s = fmLet ∧ runE s = s.size := by
  obtain ⟨k1, k2, k3, _, _⟩ := names_fact hx
  obtain ⟨q1, q2⟩ := (preB_iff _ _).1 hp
  have hs : (s.extract 1 s.size).size = s.size - 1 := by rw [ByteArray.size_extract]; omega
  rw [hs] at q1 q2
  have hl : ∀ j, 1 ≤ j → j < s.size → letP (byt s j) = true := fun j h1 h2 => by
    have h := q2 (j - 1) (by omega)
    rw [byt_extract s 1 _ _ (by omega) (Nat.le_refl _), show 1 + (j - 1) = j by omega] at h
    rw [← h]
    exact k3 (j - 1) (by omega)
  have hf : fmOf s = fmLet := fm_let fun h => let_35 (hl 1 (Nat.le_refl _) (by omega)) h.2
  refine ⟨hf, ?_⟩
  rw [fm_eq hf]
  exact runTo_is _ _ (by show 1 ≤ _; omega) (by show _ ≤ 1 + 6; omega) (fun j h1 h2 => ⟨h2, hl j h1 h2⟩) (.inl (Nat.le_refl _))
theorem amp_pre (x s : ByteArray) (h0 : 0 < s.size) (h38 : byt s 0 = 38) : preB (ampB ++ x) s = preB x (s.extract 1 s.size) := by
  have hs : (s.extract 1 s.size).size = s.size - 1 := by rw [ByteArray.size_extract]; omega
  rw [Bool.eq_iff_iff, preB_iff, preB_iff, hs, ByteArray.size_append, show ampB.size = 1 from rfl]
  constructor
  · rintro ⟨h1, h2⟩
    refine ⟨by omega, fun i hi => ?_⟩
    have := h2 (1 + i) (by omega)
    rw [show 1 + i = ampB.size + i from rfl, byt_right] at this
    rw [this, byt_extract s 1 _ i (by omega) (Nat.le_refl _)]
    rfl
  · rintro ⟨h1, h2⟩
    refine ⟨by omega, fun i hi => ?_⟩
    by_cases hi0 : i = 0
    · subst hi0
      rw [byt_left _ _ 0 (by decide), h38]
      rfl
    · obtain ⟨j, rfl⟩ : ∃ j, i = 1 + j := ⟨i - 1, by omega⟩
      rw [show 1 + j = ampB.size + j from rfl, byt_right, h2 j (by omega), byt_extract s 1 _ j (by omega) (Nat.le_refl _)]
      rfl
theorem run_nums {s : ByteArray} {f : Fm} {base : Nat} (hf : fmOf s = f) (hp : f.p = pOf base) (hk : f.skip < s.size) (hs : f.skip ≤ s.size) : decide (s.size ≤ runE s) = decide (0 ≤ refN base f.most (s.extract f.skip s.size)) := by
  have hes : (s.extract f.skip s.size).size = s.size - f.skip := by rw [ByteArray.size_extract]; omega
  rw [decide_eq_decide, fm_eq hf]
  constructor
  · intro h
    have hge := runTo_ge f.p s f.most f.skip
    rw [refN_yes (by omega) (by omega) fun i hi => ?_]
    · exact scal_nonneg _
    · rw [hes] at hi
      rw [byt_extract s _ _ i (by omega) (Nat.le_refl _), ← hp]
      exact (runTo_all f.p s f.most f.skip (f.skip + i) (by omega) (by omega)).2
  · intro h
    obtain ⟨h1, h2, h3, _⟩ := refN_ok h
    rw [hes] at h2 h3
    rw [runTo_is (e := s.size) _ _ hs (by omega) (fun j k1 k2 => ⟨k2, ?_⟩) (.inl (Nat.le_refl _))]
    · exact Nat.le_refl _
    · have := h3 (j - f.skip) (by omega)
      rw [byt_extract s _ _ _ (by omega) (Nat.le_refl _), show f.skip + (j - f.skip) = j by omega] at this
      rw [hp]
      exact this
theorem fp_hex : fmHex.p = pOf 16 := rfl
theorem fp_dec : fmDec.p = pOf 10 := rfl
theorem run_hex {s : ByteArray} (hf : fmOf s = fmHex) (hk : 3 < s.size) : decide (s.size ≤ runE s) = decide (0 ≤ refN 16 6 (s.extract 3 s.size)) := run_nums (f := fmHex) (base := 16) hf fp_hex hk (Nat.le_of_lt hk)
theorem run_dec {s : ByteArray} (hf : fmOf s = fmDec) (hk : 2 < s.size) : decide (s.size ≤ runE s) = decide (0 ≤ refN 10 7 (s.extract 2 s.size)) := run_nums (f := fmDec) (base := 10) hf fp_dec hk (Nat.le_of_lt hk)
theorem run_at {s : ByteArray} {f : Fm} (hf : fmOf s = f) (hs : s.size = f.skip) : runE s = f.skip := by
  rw [fm_eq hf]
  exact runTo_is _ _ (Nat.le_refl _) (by omega) (fun j h1 h2 => by omega) (.inl (by omega))
theorem run_hex0 {s : ByteArray} (hf : fmOf s = fmHex) (hs : s.size = 3) : runE s = 3 := run_at hf hs
theorem run_dec0 {s : ByteArray} (hf : fmOf s = fmDec) (hs : s.size = 2) : runE s = 2 := run_at hf hs
theorem run_let0 {s : ByteArray} (hf : fmOf s = fmLet) (hs : s.size = 1) : runE s = 1 := run_at hf hs
theorem any_none {s : ByteArray} (h2 : 2 ≤ s.size) (h35 : byt s 1 = 35) : (names.any fun x => preB x.1 (s.extract 1 s.size)) = false := by
  rw [Bool.eq_false_iff]
  intro h
  obtain ⟨x, hx, hp⟩ := List.any_eq_true.1 h
  obtain ⟨hf, _⟩ := let_run (by omega) hx hp
  rcases fm_cases s with ⟨k, _⟩ | ⟨k, _⟩ | ⟨_, k⟩
  · rw [k] at hf; cases hf
  · rw [k] at hf; cases hf
  · exact k ⟨h2, h35⟩
theorem open_ref (s : ByteArray) : entO s = refO s := by
  unfold entO refO
  by_cases h0 : s.size = 0
  · rw [if_pos h0, decide_eq_false (by omega), Bool.false_and]
  rw [if_neg h0]
  by_cases h38 : byt s 0 ≠ 38
  · rw [if_pos h38, decide_eq_false (fun h => h38 h.2.1), Bool.false_and]
  rw [if_neg h38]
  have h38 : byt s 0 = 38 := Classical.byContradiction h38
  have hany : (names.any fun x => preB (ampB ++ x.1) s) = names.any fun x => preB x.1 (s.extract 1 s.size) := by
    congr 1
    funext x
    exact amp_pre x.1 s (by omega) h38
  have hd : decide (0 < s.size ∧ byt s 0 = 38 ∧ s.size ≤ runE s) = decide (s.size ≤ runE s) := decide_eq_decide.2 ⟨fun h => h.2.2, fun h => ⟨by omega, h38, h⟩⟩
  rw [hany, hd]
  rcases fm_cases s with ⟨hf, k1, k2, k3⟩ | ⟨hf, k1, k2, k3⟩ | ⟨hf, k1⟩
  · rw [hf, show decide (fmHex.base ≠ 0) = true from rfl, Bool.true_or, Bool.and_true]
    by_cases hs : s.size = 3
    · rw [if_pos (.inr ⟨k2, .inr ⟨hs, k3⟩⟩), run_hex0 hf hs]
      exact decide_eq_true (by omega)
    · rw [if_neg (by omega), any_none (by omega) k2, Bool.false_or, if_pos ⟨k1, k2, k3⟩]
      exact run_hex hf (by omega)
  · rw [hf, show decide (fmDec.base ≠ 0) = true from rfl, Bool.true_or, Bool.and_true]
    by_cases hs : s.size = 2
    · rw [if_pos (.inr ⟨k2, .inl hs⟩), run_dec0 hf hs]
      exact decide_eq_true (by omega)
    · rw [if_neg (fun h => by
        rcases h with h | ⟨_, h | h⟩
        · omega
        · exact hs h
        · exact k3 ⟨by omega, h.2⟩), any_none (by omega) k2, Bool.false_or, if_neg (fun h => k3 ⟨h.1, h.2.2⟩), decide_eq_true k2, Bool.true_and]
      exact run_dec hf (by omega)
  · rw [hf, show decide (fmLet.base ≠ 0) = false from rfl, Bool.false_or]
    by_cases hs : s.size = 1
    · rw [if_pos (.inl hs), run_let0 hf hs, decide_eq_true (by omega), Bool.true_and]
      show (names.any fun x => preB x.1 (s.extract 1 s.size)) = true
      rw [List.any_eq_true]
      refine ⟨_, List.mem_cons_self .., (preB_iff _ _).2 ⟨?_, fun i hi => ?_⟩⟩
      · rw [ByteArray.size_extract]; show _ ≤ 3; omega
      · rw [ByteArray.size_extract] at hi; omega
    · have h35 : byt s 1 ≠ 35 := fun h => k1 ⟨by omega, h⟩
      rw [if_neg (fun h => h.elim hs fun h => h35 h.1), if_neg (fun h => h35 h.2.1), decide_eq_false h35, Bool.false_and, Bool.or_false]
      show (decide (s.size ≤ runE s) && names.any fun x => preB x.1 (s.extract 1 s.size)) = names.any fun x => preB x.1 (s.extract 1 s.size)
      cases ha : names.any fun x => preB x.1 (s.extract 1 s.size)
      · rw [Bool.and_false]
      · obtain ⟨x, hx, hp⟩ := List.any_eq_true.1 ha
        rw [(let_run (by omega) hx hp).2, decide_eq_true (Nat.le_refl _), Bool.true_and]
theorem ext_all (s : ByteArray) : s.extract 0 s.size = s := by
  apply ext_byt
  · rw [ByteArray.size_extract]; omega
  · intro i hi
    rw [ByteArray.size_extract] at hi
    rw [byt_ext0 _ (by omega) (Nat.le_refl _)]
theorem entR_zero {s : ByteArray} (h0 : 0 < s.size) (h38 : byt s 0 = 38) : entR s 0 = entH s := by
  unfold entR
  rw [if_pos ⟨Int.le_refl _, by omega, h38⟩]
  show entH (s.extract 0 s.size) = _
  rw [ext_all]
theorem entH_run {s : ByteArray} {q : Int × Nat} (h : entH s = some q) : runE s < s.size := by
  unfold entH at h
  split at h
  · cases h
  · rename_i hc
    rcases Nat.lt_or_ge (runE s) s.size with h | h
    · exact h
    · exact absurd (.inr (.inl h)) hc
theorem entO_run {s : ByteArray} (h : runE s < s.size) : entO s = false := by
  unfold entO
  rw [decide_eq_false (fun h2 => by omega), Bool.false_and]
theorem read_open {s : ByteArray} {q : Int × Nat} (h : entR s 0 = some q) : entO s = false := by
  have h2 := h
  unfold entR at h
  split at h
  · rename_i hc
    have h3 : 0 < s.size := by have := hc.2.1; omega
    rw [entR_zero h3 hc.2.2] at h2
    exact entO_run (entH_run h2)
  · cases h

/-- Digits of sixteen. -/
def dg (k : Nat) : UInt8 := UInt8.ofNat (if k < 10 then 48 + k else 87 + k)
def hexD (u : Nat) : List UInt8 := if h : u < 16 then [dg u] else hexD (u / 16) ++ [dg (u % 16)]
decreasing_by omega
def hexB (u : Nat) : ByteArray := ⟨(hexD u).toArray⟩
def nameOf (r : Int) : Option ByteArray := (names.find? fun x => decide (x.2 = r)).map (·.1)
def semiC : ByteArray := ⟨#[59]⟩
def hexH : ByteArray := ⟨#[38, 35, 120]⟩
/-- A scalar's reference. -/
def writeR (r : Int) : ByteArray :=
  if r = 0 ∨ ¬ rightV r then ⟨#[]⟩ else match nameOf r with
  | some n => ampB ++ n ++ semiC
  | none => hexH ++ hexB r.toNat ++ semiC
theorem dg_val : ∀ k : Fin 16, (dg k.val).toNat = if k.val < 10 then 48 + k.val else 87 + k.val := by decide
theorem dg_hex : ∀ k : Fin 16, hexP ((dg k.val).toNat : Int) = true ∧ digV ((dg k.val).toNat : Int) = k.val := by decide
theorem hexD_mem : ∀ (u : Nat), ∀ b ∈ hexD u, hexP (b.toNat : Int) = true := by
  intro u
  induction u using Nat.strongRecOn with
  | _ u ih =>
    intro b hb
    rw [hexD] at hb
    split at hb
    · rename_i h
      rw [List.mem_singleton.1 hb]
      exact (dg_hex ⟨u, h⟩).1
    · rcases List.mem_append.1 hb with h | h
      · exact ih (u / 16) (by omega) b h
      · rw [List.mem_singleton.1 h]
        exact (dg_hex ⟨u % 16, Nat.mod_lt _ (by decide)⟩).1
theorem hexD_val : ∀ (u : Nat), (hexD u).foldl (fun (n : Int) b => 16 * n + digV (b.toNat : Int)) 0 = u := by
  intro u
  induction u using Nat.strongRecOn with
  | _ u ih =>
    rw [hexD]
    split
    · rename_i h
      show 16 * 0 + digV _ = _
      rw [(dg_hex ⟨u, h⟩).2]
      show 16 * 0 + (u : Int) = _
      omega
    · rw [List.foldl_append, ih (u / 16) (by omega)]
      show 16 * _ + digV _ = _
      rw [(dg_hex ⟨u % 16, Nat.mod_lt _ (by decide)⟩).2]
      show 16 * ((u / 16 : Nat) : Int) + ((u % 16 : Nat) : Int) = _
      omega
theorem hexD_len : ∀ (k u : Nat), 1 ≤ k → u < 16 ^ k → (hexD u).length ≤ k := by
  intro k
  induction k with
  | zero => intro u h; omega
  | succ k ih =>
    intro u _ hu
    rw [hexD]
    split
    · simp
    · rename_i h
      rw [List.length_append, List.length_singleton]
      have hk : 1 ≤ k := by
        rcases Nat.eq_zero_or_pos k with h0 | h0
        · subst h0; exact absurd hu h
        · exact h0
      have := ih (u / 16) hk (by rw [Nat.pow_succ] at hu; omega)
      omega
theorem hexD_pos (u : Nat) : 1 ≤ (hexD u).length := by
  rw [hexD]
  split <;> simp
theorem hexB_size (u : Nat) : (hexB u).size = (hexD u).length := by simp [hexB, ByteArray.size]
theorem hexB_byt (u i : Nat) (h : i < (hexB u).size) : hexP (byt (hexB u) i) = true := by
  have hl : i < (hexD u).length := by rw [← hexB_size]; exact h
  have : byt (hexB u) i = (((hexD u)[i].toNat : Nat) : Int) := by
    unfold byt hexB
    simp [Array.getD_eq_getD_getElem?, hl]
  rw [this]
  exact hexD_mem u _ (List.getElem_mem hl)
theorem hexB_num (u : Nat) : numV 16 (hexB u) = u := by
  unfold numV intsOf hexB
  rw [List.foldl_map]
  exact hexD_val u
theorem findN_all : (names.all fun x => decide (findN x.1 = some x.2)) = true := by kernel_rfl
theorem nameOf_some {r : Int} {n : ByteArray} (h : nameOf r = some n) : ∃ x ∈ names, x.1 = n ∧ x.2 = r ∧ findN n = some r := by
  unfold nameOf at h
  obtain ⟨x, hx, rfl⟩ := Option.map_eq_some_iff.1 h
  have hm := List.mem_of_find?_eq_some hx
  have hr : x.2 = r := (by simpa using List.find?_some hx)
  have := of_decide_eq_true (List.all_eq_true.1 findN_all x hm)
  exact ⟨x, hm, rfl, hr, by rw [this, hr]⟩
theorem right_small {r : Int} (h : rightV r) : r.toNat < 16 ^ 6 ∧ ((r.toNat : Nat) : Int) = r := by
  obtain ⟨h1, h2, _⟩ := h
  constructor
  · show r.toNat < 16777216; omega
  · omega
/-- What is written: its parts: a sign, a middle, and the end. -/
theorem write_parts {r : Int} (h0 : r ≠ 0) (hr : rightV r) : ∃ (f : Fm) (d : ByteArray), (f = fmLet ∧ writeR r = ampB ++ d ++ semiC ∧ findN d = some r ∨ f = fmHex ∧ writeR r = hexH ++ d ++ semiC ∧ scal (numV 16 d) = r) ∧ 1 ≤ d.size ∧ d.size ≤ f.most ∧ (∀ i, i < d.size → f.p (byt d i) = true) := by
  have hc : ¬ (r = 0 ∨ ¬ rightV r) := fun h => h.elim h0 fun h => h hr
  cases hn : nameOf r with
  | some n =>
    obtain ⟨x, hx, rfl, hx2, hf⟩ := nameOf_some hn
    obtain ⟨k1, k2, k3, _, _⟩ := names_fact hx
    refine ⟨fmLet, x.1, .inl ⟨rfl, ?_, hf⟩, by omega, k2, k3⟩
    unfold writeR
    rw [if_neg hc, hn]
  | none =>
    obtain ⟨hs, he⟩ := right_small hr
    refine ⟨fmHex, hexB r.toNat, .inr ⟨rfl, ?_, ?_⟩, ?_, ?_, hexB_byt _⟩
    · unfold writeR
      rw [if_neg hc, hn]
    · rw [hexB_num, he]
      unfold scal
      rw [if_neg hc]
    · rw [hexB_size]; exact hexD_pos _
    · rw [hexB_size]; exact hexD_len 6 _ (by decide) hs
/-- A beginning of what is written: how it goes on. -/
theorem parts_fm {f : Fm} {hd d : ByteArray} (hf : f = fmLet ∧ hd = ampB ∨ f = fmHex ∧ hd = hexH) (h1 : 1 ≤ d.size) (hp : ∀ i, i < d.size → f.p (byt d i) = true) (m : ByteArray) : f.skip = hd.size ∧ byt ((hd ++ d ++ semiC) ++ m) 0 = 38 ∧ fmOf ((hd ++ d ++ semiC) ++ m) = f ∧ runE ((hd ++ d ++ semiC) ++ m) = hd.size + d.size ∨ f.most < d.size := by
  by_cases hm : d.size ≤ f.most
  case neg => exact .inr (by omega)
  left
  have hsz : ((hd ++ d ++ semiC) ++ m).size = hd.size + d.size + 1 + m.size := by rw [ByteArray.size_append, ByteArray.size_append, ByteArray.size_append]; rfl
  have bh : ∀ i, i < hd.size → byt ((hd ++ d ++ semiC) ++ m) i = byt hd i := fun i hi => by
    rw [byt_left _ _ i (by rw [ByteArray.size_append, ByteArray.size_append]; omega), byt_left _ _ i (by rw [ByteArray.size_append]; omega), byt_left _ _ i hi]
  have bd : ∀ i, i < d.size → byt ((hd ++ d ++ semiC) ++ m) (hd.size + i) = byt d i := fun i hi => by
    rw [byt_left _ _ _ (by rw [ByteArray.size_append, ByteArray.size_append]; omega), byt_left _ _ _ (by rw [ByteArray.size_append]; omega), byt_right]
  have be : byt ((hd ++ d ++ semiC) ++ m) (hd.size + d.size) = 59 := by
    rw [byt_left _ _ _ (by rw [ByteArray.size_append, ByteArray.size_append]; show _ < _ + 1; omega)]
    have := byt_right (hd ++ d) semiC 0
    rw [ByteArray.size_append, Nat.add_zero] at this
    rw [this]
    rfl
  generalize (hd ++ d ++ semiC) ++ m = s at *
  have hrun : fmOf s = f → f.skip = hd.size → runE s = hd.size + d.size := fun h h2 => by
    rw [fm_eq h]
    refine runTo_is _ _ (by omega) (by omega) (fun j k1 k2 => ⟨by omega, ?_⟩) (.inr (by rw [be]; exact p_59 _))
    have := bd (j - hd.size) (by omega)
    rw [show hd.size + (j - hd.size) = j by omega] at this
    rw [this]
    exact hp _ (by omega)
  rcases hf with ⟨rfl, rfl⟩ | ⟨rfl, rfl⟩
  · have h1b : byt s 1 = byt d 0 := bd 0 (by omega)
    have hfm : fmOf s = fmLet := fm_let fun h => by rw [h1b] at h; exact let_35 (hp 0 (by omega)) h.2
    exact ⟨rfl, bh 0 (by decide), hfm, hrun hfm rfl⟩
  · have hfm : fmOf s = fmHex := fm_hex ⟨by have : hexH.size = 3 := rfl; omega, bh 1 (by decide), by rw [bh 2 (by decide)]; decide⟩
    exact ⟨rfl, bh 0 (by decide), hfm, hrun hfm rfl⟩
theorem write_read {r : Int} (h0 : r ≠ 0) (hr : rightV r) (m : ByteArray) : entR (writeR r ++ m) 0 = some (r, (writeR r).size) ∧ (writeR r).size ≤ 10 ∧ 3 ≤ (writeR r).size := by
  obtain ⟨f, d, hc, h1, h2, h3⟩ := write_parts h0 hr
  rcases hc with ⟨rfl, hw, hv⟩ | ⟨rfl, hw, hv⟩
  · have hk := (parts_fm (.inl ⟨rfl, rfl⟩) h1 h3 m).resolve_right (by omega)
    obtain ⟨k0, k1, k2, k3⟩ := hk
    have hs : (writeR r).size = 1 + d.size + 1 := by rw [hw, ByteArray.size_append, ByteArray.size_append]; rfl
    have hs2 : (writeR r ++ m).size = 1 + d.size + 1 + m.size := by rw [ByteArray.size_append, hs]
    have h2' : d.size ≤ 6 := h2
    refine ⟨?_, by omega, by omega⟩
    rw [hw] at hs hs2 ⊢
    have hpc : ((ampB ++ d ++ semiC) ++ m).extract 1 (1 + d.size) = d := by
      have hp : Pre (ampB ++ d) ((ampB ++ d ++ semiC) ++ m) := (Pre.left (ampB ++ d) semiC).trans (Pre.left _ m)
      exact hp.piece
    have hbe : byt ((ampB ++ d ++ semiC) ++ m) (1 + d.size) = 59 := by
      rw [byt_left _ _ _ (by omega)]
      have := byt_right (ampB ++ d) semiC 0
      rw [ByteArray.size_append, Nat.add_zero] at this
      rw [show 1 + d.size = ampB.size + d.size from rfl, this]
      rfl
    rw [entR_zero (by omega) k1]
    unfold entH
    rw [k3, k2, show ampB.size = 1 from rfl, hbe, if_neg (by show ¬ (_ = 1 ∨ _ ∨ _); omega), if_pos (show fmLet.base = 0 from rfl)]
    show (findN ((((ampB ++ d) ++ semiC) ++ m).extract 1 (1 + d.size))).map _ = _
    rw [hpc, hv, hs]
    rfl
  · have hk := (parts_fm (.inr ⟨rfl, rfl⟩) h1 h3 m).resolve_right (by omega)
    obtain ⟨k0, k1, k2, k3⟩ := hk
    have hs : (writeR r).size = 3 + d.size + 1 := by rw [hw, ByteArray.size_append, ByteArray.size_append]; rfl
    have hs2 : (writeR r ++ m).size = 3 + d.size + 1 + m.size := by rw [ByteArray.size_append, hs]
    have h2' : d.size ≤ 6 := h2
    refine ⟨?_, by omega, by omega⟩
    rw [hw] at hs hs2 ⊢
    have hpc : ((hexH ++ d ++ semiC) ++ m).extract 3 (3 + d.size) = d := by
      have hp : Pre (hexH ++ d) ((hexH ++ d ++ semiC) ++ m) := (Pre.left (hexH ++ d) semiC).trans (Pre.left _ m)
      exact hp.piece
    have hbe : byt ((hexH ++ d ++ semiC) ++ m) (3 + d.size) = 59 := by
      rw [byt_left _ _ _ (by omega)]
      have := byt_right (hexH ++ d) semiC 0
      rw [ByteArray.size_append, Nat.add_zero] at this
      rw [show 3 + d.size = hexH.size + d.size from rfl, this]
      rfl
    rw [entR_zero (by omega) k1]
    unfold entH
    rw [k3, k2, show hexH.size = 3 from rfl, hbe, if_neg (by show ¬ (_ = 3 ∨ _ ∨ _); omega), if_neg (by decide)]
    show some (scal (numV 16 ((((hexH ++ d) ++ semiC) ++ m).extract 3 (3 + d.size))), _) = _
    rw [hpc, hv, hs]
theorem write_none {r : Int} : writeR r = ⟨#[]⟩ ↔ r = 0 ∨ ¬ rightV r := by
  constructor
  · intro h
    apply Classical.byContradiction
    intro hc
    have := (write_read (r := r) (fun h => hc (.inl h)) (Classical.byContradiction fun h => hc (.inr h)) ⟨#[]⟩).2.2
    rw [h] at this
    exact absurd this (by decide)
  · intro h
    unfold writeR
    rw [if_pos h]
/-- A reference, cut off. -/
theorem write_cut {r : Int} (h0 : r ≠ 0) (hr : rightV r) {n : Nat} (hn : n < (writeR r).size) : entR ((writeR r).extract 0 n) 0 = none ∧ entO ((writeR r).extract 0 n) = decide (0 < n) := by
  have hsn : ((writeR r).extract 0 n).size = n := by rw [ByteArray.size_extract]; omega
  by_cases hn0 : n = 0
  · subst hn0
    have : (writeR r).extract 0 0 = ⟨#[]⟩ := ext_self _ 0
    rw [this]
    exact ⟨rfl, rfl⟩
  have hb := fun i (hi : i < n) => byt_ext0 (writeR r) hi (show n ≤ _ by omega)
  obtain ⟨f, d, hc, h1, h2, h3⟩ := write_parts h0 hr
  have key : byt ((writeR r).extract 0 n) 0 = 38 → n ≤ runE ((writeR r).extract 0 n) → ((fmOf ((writeR r).extract 0 n)).base ≠ 0 ∨ ∃ x ∈ names, preB x.1 (((writeR r).extract 0 n).extract (fmOf ((writeR r).extract 0 n)).skip n) = true) → entR ((writeR r).extract 0 n) 0 = none ∧ entO ((writeR r).extract 0 n) = decide (0 < n) := by
    intro k1 k2 k3
    constructor
    · rw [entR_zero (by omega) k1]
      unfold entH
      rw [if_pos (.inr (.inl (by omega)))]
    · unfold entO
      rw [hsn, decide_eq_true ⟨by omega, k1, k2⟩, Bool.true_and, decide_eq_true (show 0 < n by omega), Bool.or_eq_true]
      rcases k3 with k3 | ⟨x, hx, hp⟩
      · exact .inl (decide_eq_true k3)
      · exact .inr (List.any_eq_true.2 ⟨x, hx, hp⟩)
  rcases hc with ⟨rfl, hw, hv⟩ | ⟨rfl, hw, hv⟩
  · have hs : (writeR r).size = 1 + d.size + 1 := by rw [hw, ByteArray.size_append, ByteArray.size_append]; rfl
    have h2' : d.size ≤ 6 := h2
    have b0 : byt (writeR r) 0 = 38 := by rw [hw, append_assoc3, byt_left _ _ 0 (by decide)]; rfl
    have bd : ∀ i, i < d.size → byt (writeR r) (1 + i) = byt d i := fun i hi => by
      rw [hw, byt_left _ _ _ (by rw [ByteArray.size_append]; show _ < 1 + _; omega), show 1 + i = ampB.size + i from rfl, byt_right]
    obtain ⟨x, hx, hxe, hxr⟩ := findN_some hv
    have hpre : preB x.1 (((writeR r).extract 0 n).extract 1 ((writeR r).extract 0 n).size) = true := by
      rw [preB_iff, ByteArray.size_extract, hsn, hxe]
      refine ⟨by omega, fun i hi => ?_⟩
      rw [byt_extract _ 1 n i (by omega) (by omega), hb _ (by omega), bd i (by omega)]
    obtain ⟨hf, hr⟩ := let_run (by omega) hx hpre
    refine key (by rw [hb 0 (by omega)]; exact b0) (by omega) (.inr ⟨x, hx, ?_⟩)
    rw [hf]
    rw [hsn] at hpre
    exact hpre
  · have hs : (writeR r).size = 3 + d.size + 1 := by rw [hw, ByteArray.size_append, ByteArray.size_append]; rfl
    have h2' : d.size ≤ 6 := h2
    have bh : ∀ i, i < 3 → byt (writeR r) i = byt hexH i := fun i hi => by
      rw [hw, append_assoc3, byt_left _ _ i (by show i < 3; exact hi)]
    have bd : ∀ i, i < d.size → byt (writeR r) (3 + i) = byt d i := fun i hi => by
      rw [hw, byt_left _ _ _ (by rw [ByteArray.size_append]; show _ < 3 + _; omega), show 3 + i = hexH.size + i from rfl, byt_right]
    have b0 : byt ((writeR r).extract 0 n) 0 = 38 := by rw [hb 0 (by omega), bh 0 (by decide)]; rfl
    by_cases hn1 : n = 1
    · subst hn1
      have hf : fmOf ((writeR r).extract 0 1) = fmLet := fm_let fun h => by omega
      have hr : runE ((writeR r).extract 0 1) = 1 := by
        rw [fm_eq hf]
        exact runTo_is _ _ (Nat.le_refl _) (by decide) (fun j k1 k2 => absurd k2 (by have : 1 ≤ j := k1; omega)) (.inl (by omega))
      refine key b0 (by omega) (.inr ⟨_, List.mem_cons_self .., ?_⟩)
      rw [hf, preB_iff, ByteArray.size_extract, hsn]
      exact ⟨by show 1 - 1 ≤ 3; omega, fun i hi => absurd hi (by show ¬ i < 1 - 1; omega)⟩
    · have b1 : byt ((writeR r).extract 0 n) 1 = 35 := by rw [hb 1 (by omega), bh 1 (by decide)]; rfl
      by_cases hn2 : n = 2
      · subst hn2
        have hf : fmOf ((writeR r).extract 0 2) = fmDec := fm_dec ⟨by omega, b1⟩ fun h => by omega
        have hr : runE ((writeR r).extract 0 2) = 2 := by
          rw [fm_eq hf]
          exact runTo_is _ _ (Nat.le_refl _) (by decide) (fun j k1 k2 => absurd k2 (by have : 2 ≤ j := k1; omega)) (.inl (by omega))
        exact key b0 (by omega) (.inl (by rw [hf]; decide))
      · have b2 : byt ((writeR r).extract 0 n) 2 = 120 := by rw [hb 2 (by omega), bh 2 (by decide)]; rfl
        have hf : fmOf ((writeR r).extract 0 n) = fmHex := fm_hex ⟨by omega, b1, by rw [b2]; decide⟩
        have hr : runE ((writeR r).extract 0 n) = n := by
          rw [fm_eq hf]
          refine runTo_is _ _ (by show 3 ≤ _; omega) (by show _ ≤ 3 + 6; omega) (fun j k1 k2 => ⟨by omega, ?_⟩) (.inl (by omega))
          have k1' : 3 ≤ j := k1
          have := bd (j - 3) (by omega)
          rw [show 3 + (j - 3) = j by omega] at this
          rw [hb j k2, this]
          exact h3 _ (by omega)
        exact key b0 (by omega) (.inl (by rw [hf]; decide))

end Go.Proofs.YtpnbkecchfhimaaGreatDoor

/- out of EnA -/
namespace Go.Proofs.YtpnbkecchfhimaaGreatDoor
set_option maxRecDepth 100000
open Go.RowKit
open Go.Shelf
open Go.Lib (hid)
set_option linter.unusedVariables false

def rowCells (x : ByteArray × Int) : List Value := [.string x.1, .int .i32 x.2]
def rowsV : Array Value := (names.flatMap rowCells).toArray
noncomputable def zeroRows : Array Value := ((Tryz.prog.info? 269).bind (·.zero)).get!.cells
theorem zeroRows_run (w : World) : (Instr.alloc 269 true (.tuple #[])).run Tryz.prog w = .ok (.pointer (some ⟨w.heap.size, 0, none⟩)) (w.alloc (.cells zeroRows 269)) := by kernel_rfl
theorem rows_info : (Tryz.prog.info? 269).map (·.size) = some rowsV.size := by kernel_rfl
theorem zeroRows_size : zeroRows.size = rowsV.size := by kernel_rfl
theorem rows_one : rowsV.all (·.oneCell') = true := by kernel_rfl
theorem names_len : names.length = 26 := by kernel_rfl
theorem rowCells_get : ∀ (l : List (ByteArray × Int)) (k : Nat) (h : k < l.length), (l.flatMap rowCells)[k * 2]? = some (.string l[k].1) ∧ (l.flatMap rowCells)[k * 2 + 1]? = some (.int .i32 l[k].2)
  | x :: r, 0, _ => ⟨rfl, rfl⟩
  | x :: r, k + 1, h => by
    have := rowCells_get r k (by simpa using h)
    simpa [rowCells, Nat.add_mul] using this
theorem rowsV_get (k : Nat) (h : k < names.length) : rowsV[k * 2]? = some (.string names[k].1) ∧ rowsV[k * 2 + 1]? = some (.int .i32 names[k].2) := by
  unfold rowsV
  rw [List.getElem?_toArray, List.getElem?_toArray]
  exact rowCells_get names k h

set_option maxRecDepth 100000 in
set_option maxHeartbeats 1000000 in
theorem rows_any (w : World) : Calls Tryz.prog 186 #[] w fun e w' => e = .returned (.agg rowsV) ∧ Below w.heap.size w w' := by
  refine calls_of_wp Tryz.func186 rfl ?_
  apply wp_seq_k; intro K0 hK0
  apply wp_region_lit
  refine Great.wpList_runTo rfl (some 0) rfl (.pointer (some ⟨w.heap.size, 0, none⟩)) (w.alloc (.cells zeroRows 269)) (by as_aux_lemma => kernel_rfl) ?_
  apply wpList_nil
  refine hK0 _ _ ?_
  apply wp_seq_k; intro K1 hK1
  apply wp_region_lit
  refine wpList_table 27 _ _ 269 (.tmp 0) (.tmp 27) w.heap.size rowsV (by as_aux_lemma => kernel_rfl) (by as_aux_lemma => kernel_rfl) _ _ (heap_alloc_new w _) (by as_aux_lemma => kernel_rfl) (by as_aux_lemma => kernel_rfl) (by as_aux_lemma => kernel_rfl) ?_
  intro a' hd hx
  refine hK1 _ _ ?_
  apply wp_ret
  refine bodyPost_ret (v := .agg rowsV) (results_cell_row rfl _ _ w.heap.size _ _ _ _ (by simpa [Act.eval] using hx) (setRow_heap _ _ _ _ _ _ (heap_alloc_new w _)) Tryz.underlying269 rfl (by as_aux_lemma => kernel_rfl)) hd ⟨rfl, ?_⟩
  exact ⟨rfl, rfl, rfl, by simp, fun k hk => by rw [setRow_other _ _ _ _ (by omega)]; exact Below.heap_alloc _ _ _ hk⟩

theorem letter_any_e (c : Int) (w : World) : Calls Tryz.prog 183 #[.int .u8 c] w fun e w' => e = .returned (.bool (letP c)) ∧ w' = w := by
  by_cases h1 : 97 ≤ c
  · by_cases h2 : c ≤ 122
    · have HB := hid (show letP c = true from decide_eq_true ⟨h1, h2⟩)
      go_enter Tryz.func183, Tryz.ntmps183
      go_wp2
      go_ret
      exact ⟨ret_bool HB.out.symm, rfl⟩
    · have HB := hid (show letP c = false from decide_eq_false fun h => h2 h.2)
      go_enter Tryz.func183, Tryz.ntmps183
      go_wp2
      go_ret
      exact ⟨ret_bool HB.out.symm, rfl⟩
  · have HB := hid (show letP c = false from decide_eq_false fun h => h1 h.1)
    go_enter Tryz.func183, Tryz.ntmps183
    go_wp2
    go_ret
    exact ⟨ret_bool HB.out.symm, rfl⟩
theorem decimal_any (c : Int) (w : World) : Calls Tryz.prog 182 #[.int .u8 c] w fun e w' => e = .returned (.bool (decP c)) ∧ w' = w := by
  by_cases h1 : 48 ≤ c
  · by_cases h2 : c ≤ 57
    · have HB := hid (show decP c = true from decide_eq_true ⟨h1, h2⟩)
      go_enter Tryz.func182, Tryz.ntmps182
      go_wp2
      go_ret
      exact ⟨ret_bool HB.out.symm, rfl⟩
    · have HB := hid (show decP c = false from decide_eq_false fun h => h2 h.2)
      go_enter Tryz.func182, Tryz.ntmps182
      go_wp2
      go_ret
      exact ⟨ret_bool HB.out.symm, rfl⟩
  · have HB := hid (show decP c = false from decide_eq_false fun h => h1 h.1)
    go_enter Tryz.func182, Tryz.ntmps182
    go_wp2
    go_ret
    exact ⟨ret_bool HB.out.symm, rfl⟩
theorem hex_any (c : Int) (w : World) : Calls Tryz.prog 181 #[.int .u8 c] w fun e w' => e = .returned (.bool (hexP c)) ∧ w' = w := by
  have hd := decimal_any c w
  cases h0 : decP c
  · have hn : ¬ (48 ≤ c ∧ c ≤ 57) := of_decide_eq_false h0
    rw [h0] at hd
    have HD := hid hd
    have hx : hexP c = (decide (97 ≤ c ∧ c ≤ 102) || decide (65 ≤ c ∧ c ≤ 70)) := by unfold hexP; rw [h0, Bool.false_or]
    clear hd h0
    have hcase : (97 ≤ c ∧ c ≤ 102) ∨ (65 ≤ c ∧ c ≤ 70 ∧ ¬ 97 ≤ c) ∨ (¬ 97 ≤ c ∧ ¬ 65 ≤ c) ∨ (¬ 97 ≤ c ∧ 65 ≤ c ∧ ¬ c ≤ 70) ∨ (97 ≤ c ∧ ¬ c ≤ 102) := by omega
    rcases hcase with ⟨h1, h2⟩ | ⟨h1, h2, h3⟩ | ⟨h1, h2⟩ | ⟨h1, h2, h3⟩ | ⟨h1, h2⟩
    · have HB := hid (show hexP c = true by rw [hx]; simp; omega)
      clear hx hn
      go_enter Tryz.func181, Tryz.ntmps181
      go_wp2_with (go_at_call 182; refine HD.out.mono ?_; rintro e w' ⟨rfl, hw⟩; obtain rfl : w = w' := hw.symm)
      go_ret
      exact ⟨ret_bool HB.out.symm, rfl⟩
    · have HB := hid (show hexP c = true by rw [hx]; simp; omega)
      clear hx hn
      go_enter Tryz.func181, Tryz.ntmps181
      go_wp2_with (go_at_call 182; refine HD.out.mono ?_; rintro e w' ⟨rfl, hw⟩; obtain rfl : w = w' := hw.symm)
      go_ret
      exact ⟨ret_bool HB.out.symm, rfl⟩
    · have HB := hid (show hexP c = false by rw [hx]; simp; omega)
      clear hx hn
      go_enter Tryz.func181, Tryz.ntmps181
      go_wp2_with (go_at_call 182; refine HD.out.mono ?_; rintro e w' ⟨rfl, hw⟩; obtain rfl : w = w' := hw.symm)
      go_ret
      exact ⟨ret_bool HB.out.symm, rfl⟩
    · have HB := hid (show hexP c = false by rw [hx]; simp; omega)
      clear hx hn
      go_enter Tryz.func181, Tryz.ntmps181
      go_wp2_with (go_at_call 182; refine HD.out.mono ?_; rintro e w' ⟨rfl, hw⟩; obtain rfl : w = w' := hw.symm)
      go_ret
      exact ⟨ret_bool (by rw [HB.out]; simp; omega), rfl⟩
    · have h3 : ¬ c ≤ 70 := by omega
      have h4 : 65 ≤ c := by omega
      have HB := hid (show hexP c = false by rw [hx]; simp; omega)
      clear hx hn
      go_enter Tryz.func181, Tryz.ntmps181
      go_wp2_with (go_at_call 182; refine HD.out.mono ?_; rintro e w' ⟨rfl, hw⟩; obtain rfl : w = w' := hw.symm)
      go_ret
      exact ⟨ret_bool (by rw [HB.out]; simp; omega), rfl⟩
  · rw [h0] at hd
    have HD := hid hd
    have HB := hid (show hexP c = true by unfold hexP; rw [h0]; rfl)
    clear hd h0
    go_enter Tryz.func181, Tryz.ntmps181
    go_wp2_with (go_at_call 182; refine HD.out.mono ?_; rintro e w' ⟨rfl, hw⟩; obtain rfl : w = w' := hw.symm)
    go_ret
    exact ⟨ret_bool HB.out.symm, rfl⟩

theorem preB_ext (s p : ByteArray) : preB s p = (decide (p.size ≤ s.size) && decide (s.extract 0 p.size = p)) := by
  rw [Bool.eq_iff_iff, preB_iff, Bool.and_eq_true, decide_eq_true_iff, decide_eq_true_iff]
  constructor
  · rintro ⟨h1, h2⟩
    refine ⟨h1, ?_⟩
    apply ext_byt
    · rw [ByteArray.size_extract]; omega
    · intro i hi
      rw [ByteArray.size_extract] at hi
      rw [byt_ext0 _ (by omega) h1]
      exact h2 i (by omega)
  · rintro ⟨h1, h2⟩
    refine ⟨h1, fun i hi => ?_⟩
    rw [← byt_ext0 s hi h1, h2]
set_option maxHeartbeats 1000000 in
theorem litepre_any (s p : ByteArray) (w : World) (h0 : s.size ≤ 9223372036854775807) (h00 : p.size ≤ 9223372036854775807) : Calls Tryz.prog 162 #[.string s, .string p] w fun e w' => e = .returned (.bool (preB s p)) ∧ w' = w := by
  by_cases h : p.size ≤ s.size
  · by_cases h2 : s.extract 0 p.size = p
    · have HB := hid (show preB s p = true by rw [preB_ext, decide_eq_true h, decide_eq_true h2]; rfl)
      have h' : (p.size : Int) ≤ (s.size : Int) := by omega
      have he : ((s.extract 0 p.size).toList == p.toList) = true := by rw [h2]; simp
      clear h2
      go_enter Tryz.func162, Tryz.ntmps162
      go_wp2
      go_ret
      exact ⟨ret_bool HB.out.symm, rfl⟩
    · have HB := hid (show preB s p = false by rw [preB_ext, decide_eq_false h2, Bool.and_false])
      have h' : (p.size : Int) ≤ (s.size : Int) := by omega
      have he : ((s.extract 0 p.size).toList == p.toList) = false := str_ne h2
      clear h2
      go_enter Tryz.func162, Tryz.ntmps162
      go_wp2
      go_ret
      exact ⟨ret_bool HB.out.symm, rfl⟩
  · have HB := hid (show preB s p = false by rw [preB_ext, decide_eq_false h, Bool.false_and])
    have h' : ¬ (p.size : Int) ≤ (s.size : Int) := by omega
    go_enter Tryz.func162, Tryz.ntmps162
    go_wp2
    go_ret
    exact ⟨ret_bool HB.out.symm, rfl⟩
theorem hasprefix_any (s p : ByteArray) (w : World) (h0 : s.size ≤ 9223372036854775807) (h00 : p.size ≤ 9223372036854775807) : Calls Tryz.prog 119 #[.string s, .string p] w fun e w' => e = .returned (.bool (preB s p)) ∧ w' = w := by
  have HP := hid (litepre_any s p w h0 h00)
  go_enter Tryz.func119, Tryz.ntmps119
  go_wp2_with (go_at_call 162; refine HP.out.mono ?_; rintro e w' ⟨rfl, hw⟩; obtain rfl : w = w' := hw.symm)
  go_ret
  exact ⟨rfl, rfl⟩
end Go.Proofs.YtpnbkecchfhimaaGreatDoor

/- out of EnB -/
namespace Go.Proofs.YtpnbkecchfhimaaGreatDoor
set_option maxRecDepth 100000
open Go.RowKit
open Go.Shelf
open Go.Lib (hid)
set_option linter.unusedVariables false

/-- What slices.IndexFunc answers of a predicate. -/
def FirstI (p : Nat → Bool) (n : Nat) (i : Int) : Prop := (i = -1 ∧ ∀ j, j < n → p j = false) ∨ ∃ k : Nat, k < n ∧ i = k ∧ p k = true ∧ ∀ j, j < k → p j = false

set_option maxHeartbeats 1000000 in
theorem indexrow_any (g : Nat) (cb : Array Value) (b n c : Nat) (xs : Nat → ByteArray × Int) (p : Nat → Bool) (w : World) (eg : ∀ args w, (callFunc g args).run Tryz.prog w = .ok (.enter g args) w) (hn : n ≤ 1000000) (hbl : b < w.heap.size)
    (hc : ∀ j, j < n → w.cell? ⟨b, j * 2, none⟩ = some (.string (xs j).1) ∧ w.cell? ⟨b, j * 2 + 1, none⟩ = some (.int .i32 (xs j).2))
    (hf : ∀ (W : World) (j : Nat), Below w.heap.size w W → j < n → Calls Tryz.prog g (#[.agg #[.string (xs j).1, .int .i32 (xs j).2]] ++ cb) W fun e w' => e = .returned (.bool (p j)) ∧ Below W.heap.size W w') :
    Calls Tryz.prog 187 #[.slice (some ⟨b, 0, none⟩) n c, .func (.func g) #[] cb] w fun e w' => ∃ i, e = .returned (.int .i64 i) ∧ FirstI p n i ∧ Below w.heap.size w w' := by
  have HF := hid hf
  have HC := hid hc
  clear hf hc
  go_enter Tryz.func187, Tryz.ntmps187
  go_wp2_with fail
  go_loopg [8] n (fun kx s8 wr => ∃ k : Nat, k ≤ n ∧ n - k ≤ kx ∧ s8 = .int .i64 k ∧ Hid (Below w.heap.size w wr) ∧ Hid (∀ j, j < k → p j = false))
  case atStart => exact ⟨0, Nat.zero_le _, by omega, rfl, Below.refl _ _, fun j hj => absurd hj (Nat.not_lt_zero _)⟩
  case round =>
    obtain ⟨k, hk, hg, rfl, HB, A⟩ := hrel
    by_cases hlt : k < n
    · have hlt' : (k : Int) < (n : Int) := by omega
      have c1 := (HB.out.cell (p := ⟨b, k * 2, none⟩) hbl).trans (HC.out k hlt).1
      have c2 := (HB.out.cell (p := ⟨b, k * 2 + 1, none⟩) hbl).trans (HC.out k hlt).2
      have hcl := HF.out wr k HB.out hlt
      generalize (xs k).1 = x1 at *
      generalize (xs k).2 = x2 at *
      have HCL := hid hcl
      clear hcl
      cases hp : p k <;> rw [hp] at HCL
      · have HP := hid hp
        clear hp
        go_wp2_with (go_at_fn g; refine HCL.out.mono ?_; rintro e w' ⟨rfl, hb2⟩; have HB2 := hid (HB.out.trans (hb2.mono HB.out.size)); clear hb2)
        go_roundg (n - (k + 1))
        case measure => omega
        case rel =>
          refine ⟨k + 1, by omega, Nat.le_refl _, by go_num, HB2, fun j hj => ?_⟩
          by_cases e : j = k
          · subst e; exact HP.out
          · exact A.out j (by omega)
      · have HP := hid hp
        clear hp
        go_wp2_with (go_at_fn g; refine HCL.out.mono ?_; rintro e w' ⟨rfl, hb2⟩; have HB2 := hid (HB.out.trans (hb2.mono HB.out.size)); clear hb2)
        go_ret
        exact ⟨_, rfl, .inr ⟨k, hlt, rfl, HP.out, A.out⟩, HB2.out⟩
    · have hlt' : ¬ (k : Int) < (n : Int) := by omega
      have HK := hid (show k = n by omega)
      go_wp2_with fail
      go_ret
      exact ⟨_, rfl, .inl ⟨rfl, by rw [← HK.out]; exact A.out⟩, HB.out⟩

set_option maxHeartbeats 1000000 in
theorem findclo_any (bx : Nat) (x n : ByteArray) (r : Int) (w : World) (hx : w.cell? ⟨bx, 0, none⟩ = some (.string x)) (hbl : bx < w.heap.size) :
    Calls Tryz.prog 188 #[.agg #[.string n, .int .i32 r], .pointer (some ⟨bx, 0, none⟩)] w fun e w' => e = .returned (.bool (decide (n = x))) ∧ Below w.heap.size w w' := by
  have hx2 : (w.alloc (.cells #[.string n, .int .i32 r] 268)).cell? ⟨bx, 0, none⟩ = some (.string x) := by
    rw [World.cell?_alloc_lt _ _ _ hbl]; exact hx
  by_cases h : n = x
  · rw [decide_eq_true h]
    subst h
    go_enter Tryz.func188, Tryz.ntmps188
    go_wp2_with fail
    go_ret
    exact ⟨rfl, (Below.refl _ _).alloc (Nat.le_refl _) _⟩
  · rw [decide_eq_false h]
    have hne := str_ne h
    go_enter Tryz.func188, Tryz.ntmps188
    go_wp2_with fail
    go_ret
    exact ⟨rfl, (Below.refl _ _).alloc (Nat.le_refl _) _⟩

theorem find_first {α : Type} (q : α → Bool) : ∀ (l : List α) (k : Nat) (h : k < l.length), q l[k] = true → (∀ j (hj : j < k), q (l[j]'(by omega)) = false) → l.find? q = some l[k]
  | x :: l, 0, h, h1, _ => by
    have : q x = true := h1
    rw [List.find?_cons_of_pos this]
    rfl
  | x :: l, k + 1, h, h1, h2 => by
    have : ¬ q x = true := by have := h2 0 (by omega); simpa using this
    rw [List.find?_cons_of_neg this]
    exact find_first q l k (by simpa using h) h1 fun j hj => h2 (j + 1) (by omega)
theorem find_nothing {α : Type} (q : α → Bool) (l : List α) (h : ∀ j (hj : j < l.length), q l[j] = false) : l.find? q = none := by
  rw [List.find?_eq_none]
  intro x hx
  obtain ⟨j, hj, rfl⟩ := List.mem_iff_getElem.1 hx
  simp [h j hj]
def nameAt (j : Nat) : ByteArray × Int := names.getD j (⟨#[]⟩, 0)
theorem nameAt_is {j : Nat} (h : j < names.length) : nameAt j = names[j] := by
  unfold nameAt
  rw [List.getD_eq_getElem?_getD, List.getElem?_eq_getElem h]
  rfl
theorem found_name {x : ByteArray} {i : Int} (h : FirstI (fun j => decide ((nameAt j).1 = x)) 26 i) : (i = -1 ∧ findN x = none) ∨ ∃ k : Nat, k < 26 ∧ i = k ∧ findN x = some (nameAt k).2 := by
  have hl := names_len
  rcases h with ⟨rfl, h⟩ | ⟨k, hk, rfl, h1, h2⟩
  · refine .inl ⟨rfl, ?_⟩
    unfold findN
    rw [find_nothing _ names fun j hj => by rw [← nameAt_is hj]; exact h j (by omega)]
    rfl
  · refine .inr ⟨k, hk, rfl, ?_⟩
    unfold findN
    rw [find_first (fun x_1 => decide (x_1.1 = x)) names k (by omega) (by rw [← nameAt_is (by omega)]; exact h1) (fun j hj => by rw [← nameAt_is (by omega)]; exact h2 j hj), nameAt_is (by omega)]
    rfl

set_option maxHeartbeats 1000000 in
theorem find_any (x : ByteArray) (w : World) : Calls Tryz.prog 138 #[.string x] w fun e w' => e = .returned (.tuple #[.int .i32 ((findN x).getD 0), .bool (findN x).isSome]) ∧ Below w.heap.size w w' := by
  go_enter Tryz.func138, Tryz.ntmps138
  go_wp2_with (first
    | (go_at_call 186; refine (rows_any _).mono ?_; rintro e w1 ⟨rfl, hb⟩)
    | (with_reducible refine wpList_allocZ 4 269 _ zeroRows 269 zeroRows_run ?_)
    | ((with_reducible refine wpList_store_row (o := ⟨none, .store 269 (.tmp 4) (.tmp 6), _, _, _, _⟩) rfl 269 _ _ rfl w1.heap.size rowsV rfl rfl 269 zeroRows (heap_alloc_new _ _) rows_info zeroRows_size rows_one ?_)))
  have hs := hb.size
  simp only [World.size_alloc] at hs
  have HR := hid (setRow_heap _ _ zeroRows rowsV 269 (0, 0) (heap_alloc_new w1 (.cells zeroRows 269)))
  have hB : Below w.heap.size w ((w1.alloc (.cells zeroRows 269)).setRow w1.heap.size rowsV) := by
    refine (((Below.refl w.heap.size w).alloc (Nat.le_refl _) _).trans (hb.mono (by simp))).trans ?_
    exact ⟨rfl, rfl, rfl, by simp, fun k hk => by rw [setRow_other _ _ _ _ (by omega)]; exact Below.heap_alloc _ _ _ (by omega)⟩
  have hX : ((w1.alloc (.cells zeroRows 269)).setRow w1.heap.size rowsV).cell? ⟨w.heap.size, 0, none⟩ = some (.string x) := by
    rw [cell_setRow_other _ _ _ _ (by simp; omega), World.cell?_alloc_old _ _ _ (by simp; omega), hb.cell (by simp)]
    simp
  have hl1 : w1.heap.size < ((w1.alloc (.cells zeroRows 269)).setRow w1.heap.size rowsV).heap.size := by simp
  have hl2 : w.heap.size < ((w1.alloc (.cells zeroRows 269)).setRow w1.heap.size rowsV).heap.size := by simp; omega
  have HB := hid hB
  have HX := hid hX
  clear hB hb hX hs
  generalize (w1.alloc (.cells zeroRows 269)).setRow w1.heap.size rowsV = W1 at *
  generalize w1.heap.size = bl at *
  have hcells : ∀ j, j < 26 → W1.cell? ⟨bl, j * 2, none⟩ = some (.string (nameAt j).1) ∧ W1.cell? ⟨bl, j * 2 + 1, none⟩ = some (.int .i32 (nameAt j).2) := by
    intro j hj
    have := rowsV_get j (by rw [names_len]; exact hj)
    rw [cell_of_row _ _ _ _ _ _ HR.out, cell_of_row _ _ _ _ _ _ HR.out, nameAt_is (by rw [names_len]; exact hj)]
    exact this
  have HCE := hid hcells
  clear hcells
  refine (indexrow_any 188 #[.pointer (some ⟨w.heap.size, 0, none⟩)] bl 26 26 nameAt (fun j => decide ((nameAt j).1 = x)) W1 (fun _ _ => by kernel_rfl) (by omega) hl1 HCE.out (fun W j hW hj => findclo_any w.heap.size x _ _ W ((hW.cell (p := ⟨w.heap.size, 0, none⟩) hl2).trans HX.out) (Nat.lt_of_lt_of_le hl2 hW.size))).mono ?_
  rintro e w2 ⟨i, rfl, hi, hb2⟩
  have HB2 := hid (HB.out.trans (hb2.mono HB.out.size))
  rcases found_name hi with ⟨rfl, hf⟩ | ⟨k, hk, rfl, hf⟩
  · have HF := hid hf
    clear hf hb2 hi
    go_wp2_with fail
    go_ret2
    rw [HF.out]
    exact ⟨rfl, HB2.out⟩
  · have hc2 := (hb2.cell (p := ⟨bl, k * 2 + 1, none⟩) hl1).trans (HCE.out k hk).2
    generalize (nameAt k).2 = r at *
    have HF := hid hf
    have hk0 : ¬ (k : Int) < 0 := by omega
    have hk26 : (k : Int) < 26 := by omega
    clear hf hb2 hi HCE
    go_wp2_with fail
    go_ret2
    rw [HF.out]
    exact ⟨rfl, HB2.out⟩

end Go.Proofs.YtpnbkecchfhimaaGreatDoor

/- out of EnC -/
namespace Go.Proofs.YtpnbkecchfhimaaGreatDoor
set_option maxRecDepth 100000
open Go.RowKit
open Go.Shelf
open Go.Lib (hid)
set_option linter.unusedVariables false

set_option maxRecDepth 100000 in
theorem index_rows (k : Nat) (hk : k < 26) (w : World) : (Instr.index 269 (.agg rowsV) (.int .i64 k)).run Tryz.prog w = .ok (.agg #[.string (nameAt k).1, .int .i32 (nameAt k).2]) w := by
  have h : k = 0 ∨ k = 1 ∨ k = 2 ∨ k = 3 ∨ k = 4 ∨ k = 5 ∨ k = 6 ∨ k = 7 ∨ k = 8 ∨ k = 9 ∨ k = 10 ∨ k = 11 ∨ k = 12 ∨ k = 13 ∨ k = 14 ∨ k = 15 ∨ k = 16 ∨ k = 17 ∨ k = 18 ∨ k = 19 ∨ k = 20 ∨ k = 21 ∨ k = 22 ∨ k = 23 ∨ k = 24 ∨ k = 25 := by omega
  rcases h with rfl | rfl | rfl | rfl | rfl | rfl | rfl | rfl | rfl | rfl | rfl | rfl | rfl | rfl | rfl | rfl | rfl | rfl | rfl | rfl | rfl | rfl | rfl | rfl | rfl | rfl
  all_goals (show _ = _; kernel_rfl)
def strsOf (l : List (ByteArray × Int)) : List Value := l.map fun x => .string x.1
theorem strsOf_snoc (l : List (ByteArray × Int)) (x : ByteArray × Int) : strsOf (l ++ [x]) = strsOf l ++ [.string x.1] := by simp [strsOf]
theorem take_names {k : Nat} (h : k < 26) : names.take (k + 1) = names.take k ++ [nameAt k] := by
  have hl : k < names.length := by rw [names_len]; exact h
  rw [List.take_add_one, List.getElem?_eq_getElem hl, nameAt_is hl]
  rfl
theorem reads_blk1 {w : World} {q : Nat} {t : TypeId} {x : Value} (h : Blk w q t #[x]) : Reads w w.heap.size 1 (some ⟨q, 0, none⟩) 1 [x] := by
  refine ⟨rfl, fun _ => ⟨_, rfl, h.lt, fun j u hu => ?_⟩⟩
  have e : (Addr.add ⟨q, 0, none⟩ j) = ⟨q, j, none⟩ := by unfold Addr.add; split <;> simp_all
  rw [e, h.cell j]
  simpa using hu
theorem info_str : (Tryz.prog.info? 9).map (fun i => (i.zero, i.size, i.bytes)) = some (some (.string ⟨#[]⟩), 1, 16) := by kernel_rfl

theorem wpList_buildsK {P : Program} {ops : Array Oper} {w : World} {Q : Exit → Act → World → Prop} (n : Nat) (l : List Oper) (a : Act) (h : (builds P (l.take n) a).isSome = true) (hr : ∀ a', builds P (l.take n) a = some a' → wpList P ops Q (l.drop n) a' w) : wpList P ops Q l a w := by
  obtain ⟨a', ha⟩ := Option.isSome_iff_exists.1 h
  exact wpList_buildsN n l a a' ha (hr a' ha)

theorem names_small : (names.all fun x => decide (x.1.size ≤ 6)) = true := by kernel_rfl
theorem any_first (q : ByteArray → Bool) {i : Int} (h : FirstI (fun j => q (nameAt j).1) 26 i) : (names.any fun x => q x.1) = decide (0 ≤ i) := by
  have hl := names_len
  rcases h with ⟨rfl, h⟩ | ⟨k, hk, rfl, h1, h2⟩
  · rw [decide_eq_false (by decide), Bool.eq_false_iff]
    intro hc
    obtain ⟨x, hx, hq⟩ := List.any_eq_true.1 hc
    obtain ⟨j, hj, rfl⟩ := List.mem_iff_getElem.1 hx
    have : q (nameAt j).1 = false := h j (by omega)
    rw [nameAt_is hj] at this
    rw [this] at hq
    cases hq
  · rw [decide_eq_true (by omega)]
    refine List.any_eq_true.2 ⟨nameAt k, ?_, h1⟩
    rw [nameAt_is (by omega)]
    exact List.getElem_mem _
end Go.Proofs.YtpnbkecchfhimaaGreatDoor

/- out of EnD -/
namespace Go.Proofs.YtpnbkecchfhimaaGreatDoor
set_option maxRecDepth 100000
open Go.RowKit
open Go.Shelf
open Go.Lib (hid)
set_option linter.unusedVariables false

set_option maxRecDepth 100000 in
set_option maxHeartbeats 4000000 in
theorem refnames_any (w : World) : Calls Tryz.prog 140 #[] w fun e w' => e = .returned (.slice (some ⟨w.heap.size, 0, none⟩) 26 26) ∧ Blk w' w.heap.size 218 rowsV ∧ Below w.heap.size w w' := by
  go_enter Tryz.func140, Tryz.ntmps140
  go_wp2_with ((with_reducible refine Great.wpList_buildSliceTo (o := ⟨some 27, .buildSlice 215 26 _, _, _, _, _⟩) rfl 215 218 26 _ rfl w.heap.size rfl (some 27) rfl Tryz.underlying215 rowsV ?hf ?_); (case hf => kernel_rfl))
  go_ret
  exact ⟨rfl, Blk.new _ _ _, (Below.refl _ _).alloc (Nat.le_refl _) _⟩

def hexS : ByteArray := ⟨#[48, 49, 50, 51, 52, 53, 54, 55, 56, 57, 97, 98, 99, 100, 101, 102, 65, 66, 67, 68, 69, 70]⟩
def digR (c : Int) : Int := if hexP c then digV c else -1
theorem digR_at : ∀ i : Fin 22, digR (byt hexS i.val) = if 15 < i.val then (i.val : Int) - 6 else i.val := by decide
theorem hexS_dec : ∀ k : Fin 10, byt hexS k.val = 48 + (k.val : Int) := by decide
theorem hexS_low : ∀ k : Fin 6, byt hexS (10 + k.val) = 97 + (k.val : Int) := by decide
theorem hexS_up : ∀ k : Fin 6, byt hexS (16 + k.val) = 65 + (k.val : Int) := by decide
theorem digR_none {c : Int} (h : ∀ j, j < 22 → byt hexS j ≠ c) : digR c = -1 := by
  unfold digR
  rw [if_neg]
  intro hx
  unfold hexP decP at hx
  simp only [Bool.or_eq_true, decide_eq_true_iff] at hx
  rcases hx with hx | hx | hx
  · exact h (c - 48).toNat (by omega) (by have := hexS_dec ⟨(c - 48).toNat, by omega⟩; simp only at this; omega)
  · exact h (10 + (c - 97).toNat) (by omega) (by have := hexS_low ⟨(c - 97).toNat, by omega⟩; simp only at this; omega)
  · exact h (16 + (c - 65).toNat) (by omega) (by have := hexS_up ⟨(c - 65).toNat, by omega⟩; simp only at this; omega)
theorem getC (s : ByteArray) (i : Nat) (h : i < s.size) : ((s[i]'h).toNat : Int) = byt s i := by
  have := getB s i h
  have h0 := (byt_nonneg s i).1
  omega
set_option maxHeartbeats 1000000 in
theorem digit_any (c : Int) (w : World) : Calls Tryz.prog 190 #[.int .u8 c] w fun e w' => e = .returned (.int .i64 (digR c)) ∧ w' = w := by
  go_enter Tryz.func190, Tryz.ntmps190
  go_wp2_with fail
  go_loopg [3] 22 (fun kx s3 wr => ∃ i : Nat, s3 = .int .i64 i ∧ i ≤ 22 ∧ 22 - i ≤ kx ∧ wr = w ∧ Hid (∀ j, j < i → byt hexS j ≠ c))
  case atStart => exact ⟨0, rfl, Nat.zero_le _, by omega, rfl, fun j hj => absurd hj (Nat.not_lt_zero _)⟩
  case round =>
    obtain ⟨i, rfl, hi, hg, hw, A⟩ := hrel
    obtain rfl : w = wr := hw.symm
    by_cases hlt : i < 22
    · have hlt' : (i : Int) < 22 := by omega
      have hgb := getC hexS i hlt
      have hat := digR_at ⟨i, hlt⟩
      simp only at hat
      have hb : ∀ j, j = i → byt hexS j = byt hexS i := fun j e => by rw [e]
      have HB := hid hb
      clear hb
      generalize hy : byt hexS i = y at *
      unfold hexS at hgb
      have HY := hid hy
      clear hy
      by_cases hyc : y = c
      · subst hyc
        by_cases h15 : 15 < i
        · have h15' : (15 : Int) < (i : Int) := by omega
          rw [if_pos h15] at hat
          have HAT := hid hat
          clear hat
          go_wp2_with fail
          go_ret
          exact ⟨ret_int HAT.out.symm, rfl⟩
        · have h15' : ¬ (15 : Int) < (i : Int) := by omega
          rw [if_neg h15] at hat
          have HAT := hid hat
          clear hat
          go_wp2_with fail
          go_ret
          exact ⟨ret_int HAT.out.symm, rfl⟩
      · have hne : (y == c) = false := by simpa using hyc
        clear hat
        go_wp2_with fail
        go_roundg (22 - (i + 1))
        case measure => omega
        case rel =>
          refine ⟨i + 1, by go_num, by omega, Nat.le_refl _, rfl, fun j hj => ?_⟩
          by_cases e : j = i
          · subst e
            rw [HY.out]
            exact hyc
          · exact A.out j (by omega)
    · have hlt' : ¬ (i : Int) < 22 := by omega
      have HR := hid (digR_none (c := c) fun j hj => A.out j (by omega))
      go_wp2_with fail
      go_ret
      exact ⟨ret_int HR.out.symm, rfl⟩

end Go.Proofs.YtpnbkecchfhimaaGreatDoor

/- out of EnE -/
namespace Go.Proofs.YtpnbkecchfhimaaGreatDoor
set_option maxRecDepth 100000
open Go.RowKit
open Go.Shelf
open Go.Lib (hid)
set_option linter.unusedVariables false

def rightR (r : Int) : Bool := decide (0 ≤ r) && decide (r ≤ 1114111) && (decide (r < 55296) || decide (57343 < r))
theorem rightR_iff (r : Int) : rightR r = true ↔ rightV r := by
  unfold rightR rightV
  simp only [Bool.and_eq_true, Bool.or_eq_true, decide_eq_true_iff]
  constructor
  · rintro ⟨⟨h1, h2⟩, h3⟩; exact ⟨h1, h2, h3⟩
  · rintro ⟨h1, h2, h3⟩; exact ⟨⟨h1, h2⟩, h3⟩
theorem refright_any (r : Int) (w : World) : Calls Tryz.prog 191 #[.int .i32 r] w fun e w' => e = .returned (.bool (rightR r)) ∧ w' = w := by
  by_cases h1 : 0 ≤ r
  · by_cases h2 : r ≤ 1114111
    · by_cases h3 : r < 55296
      · have HB := hid (show rightR r = true by simp [rightR]; omega)
        go_enter Tryz.func191, Tryz.ntmps191
        go_wp2
        go_ret
        exact ⟨ret_bool HB.out.symm, rfl⟩
      · by_cases h4 : 57343 < r
        · have HB := hid (show rightR r = true by simp [rightR]; omega)
          go_enter Tryz.func191, Tryz.ntmps191
          go_wp2
          go_ret
          exact ⟨ret_bool HB.out.symm, rfl⟩
        · have HB := hid (show rightR r = false by simp [rightR]; omega)
          go_enter Tryz.func191, Tryz.ntmps191
          go_wp2
          go_ret
          exact ⟨ret_bool HB.out.symm, rfl⟩
    · have HB := hid (show rightR r = false by simp [rightR]; omega)
      go_enter Tryz.func191, Tryz.ntmps191
      go_wp2
      go_ret
      exact ⟨ret_bool HB.out.symm, rfl⟩
  · have HB := hid (show rightR r = false by simp [rightR]; omega)
    go_enter Tryz.func191, Tryz.ntmps191
    go_wp2
    go_ret
    exact ⟨ret_bool HB.out.symm, rfl⟩

def numL (base : Int) (l : List Int) : Int := l.foldl (fun n c => base * n + digV c) 0
theorem numL_snoc (base : Int) (l : List Int) (c : Int) : numL base (l ++ [c]) = base * numL base l + digV c := by
  unfold numL
  rw [List.foldl_append]
  rfl
theorem ints_take {s : ByteArray} {i : Nat} (h : i < s.size) : (intsOf s).take (i + 1) = (intsOf s).take i ++ [byt s i] := by
  have hl : i < (intsOf s).length := by rw [intsOf_len]; exact h
  rw [List.take_add_one, List.getElem?_eq_getElem hl, ← intsOf_get, List.getD_eq_getElem?_getD, List.getElem?_eq_getElem hl]
  rfl
theorem pOf_yes {base : Nat} {c : Int} (hb : base = 10 ∨ base = 16) (h : pOf base c = true) : digR c = digV c ∧ 0 ≤ digV c ∧ digV c < base := by
  have key : decP c = true → digR c = digV c ∧ 0 ≤ digV c ∧ digV c < 10 := fun h => by
    have hd := of_decide_eq_true h
    have hx : hexP c = true := by unfold hexP; rw [h, Bool.true_or]
    have hv : digV c = c - 48 := by unfold digV; rw [if_pos h]
    refine ⟨by unfold digR; rw [if_pos hx], by omega, by omega⟩
  rcases hb with rfl | rfl
  · exact key h
  · have hx : hexP c = true := h
    cases hd : decP c
    · have hx' := hx
      unfold hexP at hx'
      rw [hd, Bool.false_or, Bool.or_eq_true, decide_eq_true_iff, decide_eq_true_iff] at hx'
      refine ⟨by unfold digR; rw [if_pos hx], ?_, ?_⟩
      · unfold digV; rw [hd, if_neg (by decide)]; split <;> omega
      · unfold digV; rw [hd, if_neg (by decide)]; split <;> omega
    · have := key hd
      exact ⟨this.1, this.2.1, by omega⟩
theorem pOf_no {base : Nat} {c : Int} (hb : base = 10 ∨ base = 16) (h : pOf base c = false) : digR c < 0 ∨ (0 ≤ digR c ∧ (base : Int) ≤ digR c) := by
  rcases hb with rfl | rfl
  · have hd : decP c = false := h
    unfold digR
    cases hx : hexP c
    · rw [if_neg (by decide)]; exact .inl (by decide)
    · rw [if_pos rfl]
      right
      unfold hexP at hx
      rw [hd, Bool.false_or, Bool.or_eq_true, decide_eq_true_iff, decide_eq_true_iff] at hx
      unfold digV
      rw [hd, if_neg (by decide)]
      constructor
      · split <;> omega
      · split <;> omega
  · have hx : hexP c = false := h
    unfold digR
    rw [hx, if_neg (by decide)]
    exact .inl (by decide)
theorem pow_small : ∀ i : Nat, i ≤ 7 → (16 : Int) ^ i ≤ 268435456
  | 0, _ => by decide
  | 1, _ => by decide
  | 2, _ => by decide
  | 3, _ => by decide
  | 4, _ => by decide
  | 5, _ => by decide
  | 6, _ => by decide
  | 7, _ => by decide
  | n + 8, h => by omega
theorem refN_none {base most : Nat} {s : ByteArray} (h : s.size = 0 ∨ most < s.size ∨ ∃ i, i < s.size ∧ pOf base (byt s i) = false) : refN base most s = -1 := by
  unfold refN
  rw [if_pos]
  rcases h with h | h | ⟨i, hi, h⟩
  · exact .inl h
  · exact .inr (.inl h)
  · refine .inr (.inr ?_)
    cases ha : allP (pOf base) s
    · rfl
    · rw [(allP_iff _ _).1 ha i hi] at h; cases h

set_option maxRecDepth 100000 in
set_option maxHeartbeats 4000000 in
theorem number_any (base most : Nat) (hb : base = 10 ∨ base = 16) (hm : most ≤ 7) (s : ByteArray) (w : World) (hs : s.size ≤ 9223372036854775807) :
    Calls Tryz.prog 141 #[.string s, .int .i64 base, .int .i64 most] w fun e w' => e = .returned (.int .i32 (refN base most s)) ∧ w' = w := by
  by_cases h0 : s.size = 0
  · have h0' : (s.size : Int) = 0 := by omega
    have HR := hid (refN_none (base := base) (most := most) (.inl h0))
    clear h0
    go_enter Tryz.func141, Tryz.ntmps141
    go_wp2_with fail
    go_ret
    exact ⟨ret_int HR.out.symm, rfl⟩
  · have h0' : ((s.size : Int) == 0) = false := by rw [beq_eq_false_iff_ne]; omega
    by_cases h1 : most < s.size
    · have h1' : (most : Int) < (s.size : Int) := by omega
      have HR := hid (refN_none (base := base) (.inr (.inl h1)))
      clear h0 h1
      go_enter Tryz.func141, Tryz.ntmps141
      go_wp2_with fail
      go_ret
      exact ⟨ret_int HR.out.symm, rfl⟩
    · have h1' : ¬ (most : Int) < (s.size : Int) := by omega
      have hne : ¬ s = ByteArray.empty := fun e => h0 (by rw [e]; rfl)
      have hyes := fun c => pOf_yes (c := c) hb
      have hno := fun c => pOf_no (c := c) hb
      have hrn : (∃ i, i < s.size ∧ pOf base (byt s i) = false) → refN base most s = -1 := fun h => refN_none (.inr (.inr h))
      have hry : (∀ i, i < s.size → pOf base (byt s i) = true) → refN base most s = scal (numL base (intsOf s)) := fun h => refN_yes (by omega) (by omega) h
      have hstep := fun l c => numL_snoc (base : Int) l c
      have hzero : numL (base : Int) [] = 0 := rfl
      generalize refN base most s = R at *
      generalize numL (base : Int) = N at *
      generalize pOf base = P at *
      have HSTEP := hid hstep
      have HZERO := hid hzero
      have HYES := hid hyes
      have HNO := hid hno
      have HRN := hid hrn
      have HRY := hid hry
      have hn7 : s.size ≤ 7 := by omega
      clear hyes hno hrn hry h0 h1 hstep hzero
      go_enter Tryz.func141, Tryz.ntmps141
      rcases hb with rfl | rfl
      all_goals
        go_wp2_with fail
        go_loopg [7, 8] s.size (fun kx s7 s8 wr => ∃ (i : Nat) (v : Int), s7 = .int .i64 v ∧ s8 = .int .i64 i ∧ i ≤ s.size ∧ s.size - i ≤ kx ∧ wr = w ∧ Hid (v = N ((intsOf s).take i)) ∧ Hid (0 ≤ v ∧ v < 16 ^ i) ∧ Hid (∀ j, j < i → P (byt s j) = true))
        case atStart => exact ⟨0, 0, rfl, rfl, Nat.zero_le _, by omega, rfl, HZERO.out.symm, ⟨by decide, by decide⟩, fun j hj => absurd hj (Nat.not_lt_zero _)⟩
        case round =>
          obtain ⟨i, v, rfl, rfl, hi, hg, hw, HV, HVB, HALL⟩ := hrel
          obtain rfl : w = wr := hw.symm
          by_cases hlt : i < s.size
          · have hlt' : (i : Int) < (s.size : Int) := by omega
            have hgb := getC s i hlt
            have hy1 := HYES.out (byt s i)
            have hn1 := HNO.out (byt s i)
            have hr1 := fun h => HRN.out ⟨i, hlt, h⟩
            have htk := ints_take hlt
            have hal : P (byt s i) = true → ∀ j, j < i + 1 → P (byt s j) = true := fun h j hj => by
              by_cases e : j = i
              · subst e; exact h
              · exact HALL.out j (by omega)
            have hdg := digit_any (byt s i) w
            have hp28 := pow_small i (by omega)
            have hv0 := HVB.out.1
            have hv1 : v < 268435456 := by have := HVB.out.2; omega
            generalize byt s i = c at *
            have HTK := hid htk
            have HDG := hid hdg
            have HAL := hid hal
            clear htk hdg hal hp28
            cases hpc : P c
            · have HR := hid (hr1 hpc)
              have hn2 := hn1 hpc
              clear hn1 hr1 hpc hy1
              generalize digR c = d at *
              go_wp2_with fail
              refine HDG.out.mono ?_
              rintro e w2 ⟨rfl, hw2⟩
              obtain rfl : w = w2 := hw2.symm
              rcases hn2 with hn2 | ⟨hn2, hn3⟩
              · go_wp2_with fail
                go_ret
                exact ⟨ret_int HR.out.symm, rfl⟩
              · have hn4 : ¬ d < 0 := by omega
                go_wp2_with fail
                go_ret
                exact ⟨ret_int HR.out.symm, rfl⟩
            · obtain ⟨q1, q2, q3⟩ := hy1 hpc
              have HALL2 := hid (HAL.out hpc)
              have hst := HSTEP.out ((intsOf s).take i) c
              rw [← HV.out, ← HTK.out] at hst
              rw [q1] at HDG
              have HST := hid hst
              have HP16 := hid (show (16 : Int) ^ (i + 1) = 16 ^ i * 16 from Int.pow_succ 16 i)
              clear hn1 hr1 hpc q1 hst
              generalize digV c = d at *
              have hd0 : ¬ d < 0 := by omega
              have hd1 := Int.not_le.2 q3
              go_wp2_with fail
              refine HDG.out.mono ?_
              rintro e w2 ⟨rfl, hw2⟩
              obtain rfl : w = w2 := hw2.symm
              go_wp2_with fail
              go_roundg (s.size - (i + 1))
              case measure => omega
              case rel =>
                refine ⟨i + 1, _, rfl, by go_num, by omega, Nat.le_refl _, rfl, ?_, ?_, HALL2⟩
                · show _ = _
                  rw [HST.out]
                  rfl
                · show 0 ≤ _ ∧ _ < _
                  rw [HP16.out]
                  have := HVB.out.2
                  constructor <;> omega
          · have hlt' : ¬ (i : Int) < (s.size : Int) := by omega
            have hta : (intsOf s).take i = intsOf s := List.take_of_length_le (by rw [intsOf_len]; omega)
            have hv := HV.out
            rw [hta] at hv
            have hry := HRY.out fun j hj => HALL.out j (by omega)
            rw [← hv] at hry
            have hv0 := HVB.out.1
            have hv1 : v < 268435456 := by have := HVB.out.2; have := pow_small i (by omega); omega
            clear hta hv
            have hrr := fun W => refright_any v W
            by_cases hz : v = 0
            · subst hz
              have HR := hid hry
              clear hry hrr
              go_wp2_with fail
              go_ret
              exact ⟨ret_int HR.out.symm, rfl⟩
            · have hzb : (v == 0) = false := by simpa using hz
              cases hr : rightR v
              · rw [hr] at hrr
                have HRR := hid hrr
                have HR := hid (hry.trans (show scal v = 65533 from if_pos (.inr fun h => by rw [(rightR_iff v).2 h] at hr; cases hr)))
                clear hr hry hrr hz
                go_wp2_with (go_at_call 191; refine (HRR.out _).mono ?_; rintro e w2 ⟨rfl, hw2⟩; obtain rfl : w = w2 := hw2.symm)
                go_ret
                exact ⟨ret_int HR.out.symm, rfl⟩
              · rw [hr] at hrr
                have HRR := hid hrr
                have HR := hid (hry.trans (show scal v = v from if_neg fun h => h.elim hz fun h => h ((rightR_iff v).1 hr)))
                clear hr hry hrr hz
                go_wp2_with (go_at_call 191; refine (HRR.out _).mono ?_; rintro e w2 ⟨rfl, hw2⟩; obtain rfl : w = w2 := hw2.symm)
                go_ret
                exact ⟨ret_int HR.out.symm, rfl⟩

end Go.Proofs.YtpnbkecchfhimaaGreatDoor

/- out of EnF -/
namespace Go.Proofs.YtpnbkecchfhimaaGreatDoor
set_option maxRecDepth 100000
open Go.RowKit
open Go.Shelf
open Go.Lib (hid)
set_option linter.unusedVariables false

theorem refW_short {s : ByteArray} (h : s.size < 3 ∨ byt s 0 ≠ 38 ∨ byt s (s.size - 1) ≠ 59) : refW s = -1 := by unfold refW; rw [if_pos h]
theorem findN_none {x : ByteArray} (h : ∀ j, j < 26 → (nameAt j).1 ≠ x) : findN x = none := by
  unfold findN
  rw [find_nothing _ names fun j hj => by
    have hj' : j < 26 := by rw [← names_len]; exact hj
    rw [← nameAt_is hj]
    exact decide_eq_false (h j hj')]
  rfl
theorem findN_at {x : ByteArray} {k : Nat} (hk : k < 26) (h1 : (nameAt k).1 = x) (h : ∀ j, j < k → (nameAt j).1 ≠ x) : findN x = some (nameAt k).2 := by
  have hl := names_len
  unfold findN
  rw [find_first (fun x_1 => decide (x_1.1 = x)) names k (by omega) (by rw [← nameAt_is (by omega)]; exact decide_eq_true h1) (fun j hj => by rw [← nameAt_is (by omega)]; exact decide_eq_false (h j hj)), nameAt_is (by omega)]
  rfl
set_option maxRecDepth 100000 in
set_option maxHeartbeats 8000000 in
theorem whole_any (s : ByteArray) (w : World) (hs : s.size ≤ 1000000) :
    Calls Tryz.prog 98 #[.string s] w fun e w' => e = .returned (.int .i32 (refW s)) ∧ Below w.heap.size w w' := by
  by_cases h3 : s.size < 3
  · have h3' : (s.size : Int) < 3 := by omega
    have HR := hid (refW_short (.inl h3))
    clear h3
    go_enter Tryz.func98, Tryz.ntmps98
    go_wp2_with fail
    go_ret
    exact ⟨ret_int HR.out.symm, Below.refl _ _⟩
  have h3' : ¬ (s.size : Int) < 3 := by omega
  have hg0 := getC s 0 (by omega)
  obtain ⟨m, hm⟩ : ∃ m, s.size = m + 1 := ⟨s.size - 1, by omega⟩
  have hlm : m < s.size := by omega
  have hgm := getC s m hlm
  have hsz1 : (s.size : Int) - 1 = (m : Int) := by omega
  have hml : (m : Int) < (s.size : Int) := by omega
  have hms : refW s = if byt s 0 ≠ 38 ∨ byt s m ≠ 59 then -1 else match findN (s.extract 1 m) with
      | some r => r
      | none => if byt s 1 ≠ 35 then -1 else if 3 < s.size ∧ isX (byt s 2) then refN 16 6 (s.extract 3 m) else refN 10 7 (s.extract 2 m) := by
    unfold refW
    rw [show s.size - 1 = m by omega]
    by_cases hc : byt s 0 ≠ 38 ∨ byt s m ≠ 59
    · rw [if_pos hc, if_pos (.inr hc)]
    · rw [if_neg hc, if_neg (fun h => h.elim h3 hc)]
      all_goals rfl
  have hm2 : 2 ≤ m := by omega
  by_cases h38 : byt s 0 ≠ 38
  · rw [if_pos (.inl h38)] at hms
    have HR := hid hms
    generalize byt s 0 = c0 at *
    have hb0 : (c0 == 38) = false := by simpa using h38
    clear h38 hgm hms hm
    go_enter Tryz.func98, Tryz.ntmps98
    go_wp2_with fail
    go_ret
    exact ⟨ret_int HR.out.symm, Below.refl _ _⟩
  have h38 : byt s 0 = 38 := Classical.byContradiction h38
  by_cases h59 : byt s m ≠ 59
  · rw [if_pos (.inr h59)] at hms
    have HR := hid hms
    rw [h38] at hg0
    generalize byt s m = cm at *
    have hb0 : (cm == 59) = false := by simpa using h59
    clear h38 hms hm h59
    go_enter Tryz.func98, Tryz.ntmps98
    go_wp2_with fail
    go_ret
    exact ⟨ret_int HR.out.symm, Below.refl _ _⟩
  have h59 : byt s m = 59 := Classical.byContradiction h59
  rw [if_neg (fun h => h.elim (fun h => h h38) fun h => h h59)] at hms
  rw [h38] at hg0
  rw [h59] at hgm
  obtain ⟨t, ht⟩ : ∃ t, t = s.extract 1 m := ⟨_, rfl⟩
  have hts : t.size = m - 1 := by rw [ht, ByteArray.size_extract]; omega
  have htb : ∀ i, i < m - 1 → byt t i = byt s (1 + i) := fun i hi => by rw [ht, byt_extract s 1 m i (by omega) (by omega)]
  have hte : ∀ i, 1 ≤ i → t.extract i t.size = s.extract (i + 1) m := fun i hi => by
    apply ext_byt
    · rw [ByteArray.size_extract, ByteArray.size_extract]; omega
    · intro j hj
      rw [ByteArray.size_extract] at hj
      rw [byt_extract t i _ j (by omega) (Nat.le_refl _), htb _ (by omega), byt_extract s _ m j (by omega) (by omega)]
      congr 1
      omega
  rw [← ht, ← hte 2 (by omega), ← hte 1 (by omega), ← htb 0 (by omega)] at hms
  have hx2 : 3 < s.size → byt s 2 = byt t 1 := fun h => by rw [htb 1 (by omega)]
  have hms2 : refW s = match findN t with
      | some r => r
      | none => if byt t 0 ≠ 35 then -1 else if 1 < t.size ∧ isX (byt t 1) then refN 16 6 (t.extract 2 t.size) else refN 10 7 (t.extract 1 t.size) := by
    rw [hms]
    have : (3 < s.size ∧ isX (byt s 2)) ↔ (1 < t.size ∧ isX (byt t 1)) := by
      constructor
      · rintro ⟨h1, h2⟩; exact ⟨by omega, by rw [← hx2 h1]; exact h2⟩
      · rintro ⟨h1, h2⟩; exact ⟨by omega, by rw [hx2 (by omega)]; exact h2⟩
    simp only [this]
  have htz : 1 ≤ t.size := by omega
  have htl : t.size ≤ 1000000 := by omega
  have HR := hid hms2
  have HT := hid ht
  clear hms hms2 h38 h59 hts htb hte hx2 hm ht
  go_enter Tryz.func98, Tryz.ntmps98
  go_wp2_with fail
  rw [← HT.out]
  refine (refnames_any w).mono ?_
  rintro e w1 ⟨rfl, hr1, hb1⟩
  have HR1 := hid hr1
  have HB1 := hid hb1
  have hcl : ∀ j, j < 26 → w1.cell? ⟨w.heap.size, j * 2, none⟩ = some (.string (nameAt j).1) ∧ w1.cell? ⟨w.heap.size, j * 2 + 1, none⟩ = some (.int .i32 (nameAt j).2) := by
    intro j hj
    have := rowsV_get j (by rw [names_len]; exact hj)
    rw [hr1.cell, hr1.cell, nameAt_is (by rw [names_len]; exact hj)]
    exact this
  have HCL := hid hcl
  clear hr1 hb1 hcl
  clear hsz1 hgm hg0 hml h3' h3 hm2 hs
  go_wp2_with fail
  go_loopg [6] 26 (fun kx s6 wr => ∃ i : Nat, s6 = .int .i64 i ∧ i ≤ 26 ∧ 26 - i ≤ kx ∧ wr = w1 ∧ Hid (∀ j, j < i → (nameAt j).1 ≠ t))
  case atStart => exact ⟨0, rfl, Nat.zero_le _, by omega, rfl, fun j hj => absurd hj (Nat.not_lt_zero _)⟩
  case round =>
    obtain ⟨i, rfl, hi, hg, hw, A⟩ := hrel
    obtain rfl : w1 = wr := hw.symm
    by_cases hlt : i < 26
    · have hlt' : (i : Int) < 26 := by omega
      obtain ⟨c1, c2⟩ := HCL.out i hlt
      have hfa := findN_at (x := t) hlt
      have hneg : (nameAt i).1 ≠ t → ∀ j, j < i + 1 → (nameAt j).1 ≠ t := fun h j hj => by
        by_cases e : j = i
        · subst e; exact h
        · exact A.out j (by omega)
      generalize (nameAt i).1 = x at *
      generalize (nameAt i).2 = r at *
      by_cases hx : x = t
      · have hres := HR.out
        rw [hfa hx A.out] at hres
        have HRES := hid hres
        subst hx
        clear hfa hneg hres
        go_wp2_with fail
        go_ret
        exact ⟨ret_int HRES.out.symm, HB1.out⟩
      · have hne := str_ne hx
        have HNG := hid (hneg hx)
        clear hfa hneg
        go_wp2_with fail
        go_roundg (26 - (i + 1))
        case measure => omega
        case rel => exact ⟨i + 1, by go_num, by omega, Nat.le_refl _, rfl, HNG⟩
    · have hlt' : ¬ (i : Int) < 26 := by omega
      have hres := HR.out
      rw [findN_none fun j hj => A.out j (by omega)] at hres
      simp only at hres
      have hg0 := getC t 0 (by omega)
      have ht0 : (0 : Int) < (t.size : Int) := by omega
      clear hi hg hlt
      by_cases h35 : byt t 0 ≠ 35
      · rw [if_pos h35] at hres
        have HRES := hid hres
        generalize byt t 0 = c0 at *
        have hb0 : (c0 == 35) = false := by simpa using h35
        clear h35 hres
        go_wp2_with fail
        go_ret
        exact ⟨ret_int HRES.out.symm, HB1.out⟩
      rw [if_neg h35] at hres
      rw [Classical.byContradiction h35] at hg0
      clear h35
      by_cases h1 : 1 < t.size
      · have h1' : (1 : Int) < (t.size : Int) := by omega
        have hgx := getC t 1 h1
        have hxi : isX (byt t 1) ↔ byt t 1 = 120 ∨ byt t 1 = 88 := Iff.rfl
        generalize byt t 1 = c1 at *
        by_cases h120 : c1 = 120
        · subst h120
          rw [if_pos ⟨h1, .inl rfl⟩] at hres
          have HN := hid (fun W => number_any 16 6 (.inr rfl) (by decide) (t.extract 2 t.size) W (by rw [ByteArray.size_extract]; omega))
          have HRES := hid hres
          have hl2 : (2 : Int) ≤ (t.size : Int) := by omega
          clear hres hxi
          go_wp2_with (go_at_call 141; refine (HN.out _).mono ?_; rintro e w2 ⟨rfl, hw2⟩; obtain rfl : w1 = w2 := hw2.symm)
          go_ret
          exact ⟨ret_int HRES.out.symm, HB1.out⟩
        · have hb120 : (c1 == 120) = false := by simpa using h120
          by_cases h88 : c1 = 88
          · subst h88
            rw [if_pos ⟨h1, .inr rfl⟩] at hres
            have HN := hid (fun W => number_any 16 6 (.inr rfl) (by decide) (t.extract 2 t.size) W (by rw [ByteArray.size_extract]; omega))
            have HRES := hid hres
            have hl2 : (2 : Int) ≤ (t.size : Int) := by omega
            clear hres hxi
            go_wp2_with (go_at_call 141; refine (HN.out _).mono ?_; rintro e w2 ⟨rfl, hw2⟩; obtain rfl : w1 = w2 := hw2.symm)
            go_ret
            exact ⟨ret_int HRES.out.symm, HB1.out⟩
          · have hb88 : (c1 == 88) = false := by simpa using h88
            rw [if_neg (fun h => h.2.elim h120 h88)] at hres
            have HN := hid (fun W => number_any 10 7 (.inl rfl) (by decide) (t.extract 1 t.size) W (by rw [ByteArray.size_extract]; omega))
            have HRES := hid hres
            have hl2 : (1 : Int) ≤ (t.size : Int) := by omega
            clear hres hxi h120 h88
            go_wp2_with (go_at_call 141; refine (HN.out _).mono ?_; rintro e w2 ⟨rfl, hw2⟩; obtain rfl : w1 = w2 := hw2.symm)
            go_ret
            exact ⟨ret_int HRES.out.symm, HB1.out⟩
      · have h1' : ¬ (1 : Int) < (t.size : Int) := by omega
        rw [if_neg (fun h => h1 h.1)] at hres
        have HN := hid (fun W => number_any 10 7 (.inl rfl) (by decide) (t.extract 1 t.size) W (by rw [ByteArray.size_extract]; omega))
        have HRES := hid hres
        have hl2 : (1 : Int) ≤ (t.size : Int) := by omega
        clear hres h1
        go_wp2_with (go_at_call 141; refine (HN.out _).mono ?_; rintro e w2 ⟨rfl, hw2⟩; obtain rfl : w1 = w2 := hw2.symm)
        go_ret
        exact ⟨ret_int HRES.out.symm, HB1.out⟩

end Go.Proofs.YtpnbkecchfhimaaGreatDoor
