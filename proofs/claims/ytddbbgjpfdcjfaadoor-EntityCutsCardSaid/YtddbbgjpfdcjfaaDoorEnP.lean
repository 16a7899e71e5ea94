/- Chapter 16: references: the plain law. -/
import Derived.Test.YtddbbgjpfdcjfaaDoorByt
namespace Go.Proofs.YtddbbgjpfdcjfaaDoor
set_option linter.unusedVariables false

def decP (c : Int) : Bool := decide (48 ≤ c ∧ c ≤ 57)
def hexP (c : Int) : Bool := decP c || (decide (97 ≤ c ∧ c ≤ 102) || decide (65 ≤ c ∧ c ≤ 70))
def letP (c : Int) : Bool := decide (97 ≤ c ∧ c ≤ 122)
/-- Where the bytes end, from i on, that are so; f of them at most. -/
def runTo (p : Int → Bool) (s : ByteArray) : Nat → Nat → Nat
  | 0, i => i
  | f + 1, i => if i < s.size ∧ p (byt s i) = true then runTo p s f (i + 1) else i
theorem runTo_ge (p : Int → Bool) (s : ByteArray) : ∀ f i, i ≤ runTo p s f i ∧ runTo p s f i ≤ i + f
  | 0, i => by simp [runTo]
  | f + 1, i => by
    unfold runTo
    split
    · have := runTo_ge p s f (i + 1); omega
    · omega
theorem runTo_le (p : Int → Bool) (s : ByteArray) : ∀ f i, i ≤ s.size → runTo p s f i ≤ s.size
  | 0, i, h => by simpa [runTo] using h
  | f + 1, i, h => by
    unfold runTo
    split
    · rename_i hc; exact runTo_le p s f (i + 1) hc.1
    · exact h
theorem runTo_all (p : Int → Bool) (s : ByteArray) : ∀ f i j, i ≤ j → j < runTo p s f i → j < s.size ∧ p (byt s j) = true
  | 0, i, j, h1, h2 => by simp only [runTo] at h2; omega
  | f + 1, i, j, h1, h2 => by
    unfold runTo at h2
    split at h2
    · rename_i hc
      by_cases h : j = i
      · subst h; exact hc
      · exact runTo_all p s f (i + 1) j (by omega) h2
    · omega
theorem runTo_is {p : Int → Bool} {s : ByteArray} {e : Nat} : ∀ (f i : Nat), i ≤ e → e ≤ i + f → (∀ j, i ≤ j → j < e → j < s.size ∧ p (byt s j) = true) → (s.size ≤ e ∨ p (byt s e) = false) → runTo p s f i = e
  | 0, i, h1, h2, _, _ => by simp only [runTo]; omega
  | f + 1, i, h1, h2, h3, h4 => by
    unfold runTo
    by_cases h : i = e
    · subst h
      rw [if_neg]
      rintro ⟨h5, h6⟩
      rcases h4 with h4 | h4
      · omega
      · rw [h4] at h6; cases h6
    · rw [if_pos (h3 i (Nat.le_refl _) (by omega))]
      exact runTo_is f (i + 1) (by omega) (by omega) (fun j h5 h6 => h3 j (by omega) h6) h4
theorem runTo_stop {p : Int → Bool} {s : ByteArray} : ∀ (f i : Nat), runTo p s f i = i + f ∨ s.size ≤ runTo p s f i ∨ p (byt s (runTo p s f i)) = false
  | 0, i => .inl (by simp [runTo])
  | f + 1, i => by
    unfold runTo
    split
    · rcases runTo_stop (p := p) (s := s) f (i + 1) with h | h | h
      · exact .inl (by omega)
      · exact .inr (.inl h)
      · exact .inr (.inr h)
    · rename_i hc
      right
      by_cases h : i < s.size
      · right
        cases hp : p (byt s i)
        · rfl
        · exact absurd ⟨h, hp⟩ hc
      · exact .inl (by omega)

/-- How a reference goes on: the bytes that begin it, how many may follow, and of which base: 0: a name. -/
structure Fm where
  skip : Nat
  most : Nat
  base : Nat
def Fm.p (f : Fm) : Int → Bool := if f.base = 0 then letP else if f.base = 10 then decP else hexP
def fmHex : Fm := ⟨3, 6, 16⟩
def fmDec : Fm := ⟨2, 7, 10⟩
def fmLet : Fm := ⟨1, 6, 0⟩
def isX (c : Int) : Prop := c = 120 ∨ c = 88
instance (c : Int) : Decidable (isX c) := inferInstanceAs (Decidable (_ ∨ _))
def fmOf (s : ByteArray) : Fm := if 3 ≤ s.size ∧ byt s 1 = 35 ∧ isX (byt s 2) then fmHex else if 2 ≤ s.size ∧ byt s 1 = 35 then fmDec else fmLet
/-- Where the bytes behind a reference's beginning end. -/
def runE (s : ByteArray) : Nat := runTo (fmOf s).p s (fmOf s).most (fmOf s).skip

def digV (c : Int) : Int := if decP c then c - 48 else if 97 ≤ c then c - 87 else c - 55
/-- The number of digits. -/
def numV (base : Int) (s : ByteArray) : Int := (intsOf s).foldl (fun n c => base * n + digV c) 0
def rightV (r : Int) : Prop := 0 ≤ r ∧ r ≤ 1114111 ∧ (r < 55296 ∨ 57343 < r)
instance (r : Int) : Decidable (rightV r) := inferInstanceAs (Decidable (_ ∧ _ ∧ _))
def scal (v : Int) : Int := if v = 0 ∨ ¬ rightV v then 65533 else v

def nm (l : List UInt8) : ByteArray := ⟨l.toArray⟩
/-- All names, and their scalars. -/
def names : List (ByteArray × Int) := [(nm [97, 109, 112], 38), (nm [97, 112, 111, 115], 39), (nm [99, 111, 112, 121], 169), (nm [101, 109, 115, 112], 8195), (nm [101, 110, 115, 112], 8194), (nm [103, 116], 62), (nm [104, 101, 108, 108, 105, 112], 8230), (nm [108, 97, 113, 117, 111], 171), (nm [108, 100, 113, 117, 111], 8220), (nm [108, 114, 109], 8206), (nm [108, 115, 113, 117, 111], 8216), (nm [108, 116], 60), (nm [109, 100, 97, 115, 104], 8212), (nm [109, 105, 100, 100, 111, 116], 183), (nm [110, 98, 115, 112], 160), (nm [110, 100, 97, 115, 104], 8211), (nm [113, 117, 111, 116], 34), (nm [114, 97, 113, 117, 111], 187), (nm [114, 100, 113, 117, 111], 8221), (nm [114, 101, 103], 174), (nm [114, 108, 109], 8207), (nm [114, 115, 113, 117, 111], 8217), (nm [115, 104, 121], 173), (nm [116, 104, 105, 110, 115, 112], 8201), (nm [122, 119, 106], 8205), (nm [122, 119, 110, 106], 8204)]
def findN (s : ByteArray) : Option Int := (names.find? fun x => decide (x.1 = s)).map (·.2)

/-- The reference that bytes begin with, of which the first one is &. -/
def entH (s : ByteArray) : Option (Int × Nat) :=
  if runE s = (fmOf s).skip ∨ s.size ≤ runE s ∨ byt s (runE s) ≠ 59 then none
  else if (fmOf s).base = 0 then (findN (s.extract (fmOf s).skip (runE s))).map fun r => (r, runE s + 1)
  else some (scal (numV (fmOf s).base (s.extract (fmOf s).skip (runE s))), runE s + 1)
def entR (s : ByteArray) (i : Int) : Option (Int × Nat) := if 0 ≤ i ∧ i < s.size ∧ byt s i.toNat = 38 then entH (s.extract i.toNat s.size) else none
/-- Does x begin with q? -/
def preB (x q : ByteArray) : Bool := decide (q.size ≤ x.size ∧ ∀ i, i < q.size → byt x i = byt q i)
/-- Could they become one? -/
def entO (s : ByteArray) : Bool := decide (0 < s.size ∧ byt s 0 = 38 ∧ s.size ≤ runE s) && (decide ((fmOf s).base ≠ 0) || names.any fun x => preB x.1 (s.extract (fmOf s).skip s.size))

/-- The document's: the number of digits, of which each is less than the base; below 0: none. -/
def allP (p : Int → Bool) (s : ByteArray) : Bool := (intsOf s).all p
def pOf (base : Nat) : Int → Bool := if base = 10 then decP else hexP
def refN (base most : Nat) (s : ByteArray) : Int := if s.size = 0 ∨ most < s.size ∨ allP (pOf base) s = false then -1 else scal (numV base s)
def refW (s : ByteArray) : Int :=
  if s.size < 3 ∨ byt s 0 ≠ 38 ∨ byt s (s.size - 1) ≠ 59 then -1
  else match findN (s.extract 1 (s.size - 1)) with
  | some r => r
  | none => if byt s 1 ≠ 35 then -1 else if 3 < s.size ∧ isX (byt s 2) then refN 16 6 (s.extract 3 (s.size - 1)) else refN 10 7 (s.extract 2 (s.size - 1))
/-- The first of the beginnings of n bytes and more that is one. -/
def refGo (s : ByteArray) (i : Nat) : Nat → Nat → Option (Int × Nat)
  | 0, _ => none
  | f + 1, n => if n ≤ 10 ∧ i + n ≤ s.size then (if 0 ≤ refW (s.extract i (i + n)) then some (refW (s.extract i (i + n)), n) else refGo s i f (n + 1)) else none
def refR (s : ByteArray) (i : Nat) : Option (Int × Nat) := refGo s i 8 3

def ampB : ByteArray := ⟨#[38]⟩
def refO (s : ByteArray) : Bool :=
  if s.size = 0 then false
  else if byt s 0 ≠ 38 then false
  else if s.size = 1 ∨ (byt s 1 = 35 ∧ (s.size = 2 ∨ s.size = 3 ∧ isX (byt s 2))) then true
  else (names.any fun x => preB (ampB ++ x.1) s) || (if 3 ≤ s.size ∧ byt s 1 = 35 ∧ isX (byt s 2) then decide (0 ≤ refN 16 6 (s.extract 3 s.size)) else decide (byt s 1 = 35) && decide (0 ≤ refN 10 7 (s.extract 2 s.size)))

theorem allP_iff (p : Int → Bool) (s : ByteArray) : allP p s = true ↔ ∀ i, i < s.size → p (byt s i) = true := by
  unfold allP
  rw [List.all_eq_true]
  constructor
  · intro h i hi
    have hl : i < (intsOf s).length := by rw [intsOf_len]; exact hi
    have := h _ (List.getElem_mem hl)
    rwa [show (intsOf s)[i] = byt s i by rw [← intsOf_get, List.getD_eq_getElem?_getD, List.getElem?_eq_getElem hl]; rfl] at this
  · intro h x hx
    obtain ⟨i, hi, rfl⟩ := List.mem_iff_getElem.1 hx
    have := h i (by rw [intsOf_len] at hi; exact hi)
    rwa [show byt s i = (intsOf s)[i] by rw [← intsOf_get, List.getD_eq_getElem?_getD, List.getElem?_eq_getElem hi]; rfl] at this
theorem names_ok : (names.all fun x => decide (2 ≤ x.1.size) && decide (x.1.size ≤ 6) && allP letP x.1 && decide (0 < x.2) && decide (rightV x.2)) = true := by kernel_rfl
theorem names_fact {x : ByteArray × Int} (h : x ∈ names) : 2 ≤ x.1.size ∧ x.1.size ≤ 6 ∧ (∀ i, i < x.1.size → letP (byt x.1 i) = true) ∧ 0 < x.2 ∧ rightV x.2 := by
  have := List.all_eq_true.1 names_ok x h
  simp only [Bool.and_eq_true, decide_eq_true_iff] at this
  obtain ⟨⟨⟨⟨h1, h2⟩, h3⟩, h4⟩, h5⟩ := this
  exact ⟨h1, h2, (allP_iff _ _).1 h3, h4, h5⟩
theorem findN_some {s : ByteArray} {r : Int} (h : findN s = some r) : ∃ x ∈ names, x.1 = s ∧ x.2 = r := by
  unfold findN at h
  obtain ⟨x, hx, rfl⟩ := Option.map_eq_some_iff.1 h
  exact ⟨x, List.mem_of_find?_eq_some hx, (by simpa using List.find?_some hx), rfl⟩
theorem findN_fact {s : ByteArray} {r : Int} (h : findN s = some r) : 2 ≤ s.size ∧ s.size ≤ 6 ∧ (∀ i, i < s.size → letP (byt s i) = true) ∧ 0 < r ∧ rightV r := by
  obtain ⟨x, hx, rfl, rfl⟩ := findN_some h
  exact names_fact hx
theorem let_35 {c : Int} (h : letP c = true) : c ≠ 35 := by
  have := of_decide_eq_true h
  omega
theorem dec_x {c : Int} (h : decP c = true) : ¬ isX c := by
  have := of_decide_eq_true h
  unfold isX
  omega
theorem p_59 (f : Fm) : f.p 59 = false := by
  unfold Fm.p
  split
  · decide
  · split <;> decide
theorem fm_cases (s : ByteArray) : (fmOf s = fmHex ∧ 3 ≤ s.size ∧ byt s 1 = 35 ∧ isX (byt s 2)) ∨ (fmOf s = fmDec ∧ 2 ≤ s.size ∧ byt s 1 = 35 ∧ ¬ (3 ≤ s.size ∧ isX (byt s 2))) ∨ (fmOf s = fmLet ∧ ¬ (2 ≤ s.size ∧ byt s 1 = 35)) := by
  unfold fmOf
  split
  · rename_i h; exact .inl ⟨rfl, h⟩
  · rename_i h1
    split
    · rename_i h2; exact .inr (.inl ⟨rfl, h2.1, h2.2, fun h => h1 ⟨h.1, h2.2, h.2⟩⟩)
    · rename_i h2; exact .inr (.inr ⟨rfl, h2⟩)
theorem fm_let {s : ByteArray} (h : ¬ (2 ≤ s.size ∧ byt s 1 = 35)) : fmOf s = fmLet := by
  unfold fmOf
  rw [if_neg (fun h2 => h ⟨by omega, h2.2.1⟩), if_neg h]
theorem fm_dec {s : ByteArray} (h : 2 ≤ s.size ∧ byt s 1 = 35) (hx : ¬ (3 ≤ s.size ∧ isX (byt s 2))) : fmOf s = fmDec := by
  unfold fmOf
  rw [if_neg (fun h2 => hx ⟨h2.1, h2.2.2⟩), if_pos h]
theorem fm_hex {s : ByteArray} (h : 3 ≤ s.size ∧ byt s 1 = 35 ∧ isX (byt s 2)) : fmOf s = fmHex := by
  unfold fmOf
  rw [if_pos h]
theorem scal_nonneg (v : Int) : 0 ≤ scal v := by
  unfold scal
  split
  · decide
  · rename_i h
    have : rightV v := Classical.byContradiction fun h2 => h (.inr h2)
    exact this.1
theorem refN_ok {base most : Nat} {s : ByteArray} (h : 0 ≤ refN base most s) : 0 < s.size ∧ s.size ≤ most ∧ (∀ i, i < s.size → pOf base (byt s i) = true) ∧ refN base most s = scal (numV base s) := by
  unfold refN at h ⊢
  split at h
  · exact absurd h (by decide)
  · rename_i hc
    rw [if_neg hc]
    refine ⟨by omega, by omega, (allP_iff _ _).1 ?_, rfl⟩
    cases ha : allP (pOf base) s
    · exact absurd (.inr (.inr ha)) hc
    · rfl
theorem refN_yes {base most : Nat} {s : ByteArray} (h0 : 0 < s.size) (h1 : s.size ≤ most) (h : ∀ i, i < s.size → pOf base (byt s i) = true) : refN base most s = scal (numV base s) := by
  unfold refN
  rw [if_neg]
  rintro (h2 | h2 | h2)
  · omega
  · omega
  · rw [(allP_iff _ _).2 h] at h2; cases h2
theorem ext_ext (t : ByteArray) {m a b : Nat} (hb : b ≤ m) (hm : m ≤ t.size) : (t.extract 0 m).extract a b = t.extract a b := by
  apply ext_byt
  · rw [ByteArray.size_extract, ByteArray.size_extract, ByteArray.size_extract]; omega
  · intro i hi
    rw [ByteArray.size_extract, ByteArray.size_extract] at hi
    rw [byt_extract _ a b i (by omega) (by rw [ByteArray.size_extract]; omega), byt_extract t 0 m (a + i) (by omega) hm, byt_extract t a b i (by omega) (by omega), Nat.zero_add]
theorem byt_ext0 (t : ByteArray) {m i : Nat} (hi : i < m) (hm : m ≤ t.size) : byt (t.extract 0 m) i = byt t i := by
  rw [byt_extract t 0 m i (by omega) hm, Nat.zero_add]
/-- What the document takes for a reference is one. -/
theorem whole_head {t : ByteArray} {m : Nat} (h3 : 3 ≤ m) (h10 : m ≤ 10) (hm : m ≤ t.size) (hw : 0 ≤ refW (t.extract 0 m)) : byt t 0 = 38 ∧ entH t = some (refW (t.extract 0 m), m) := by
  have hsz : (t.extract 0 m).size = m := by rw [ByteArray.size_extract]; omega
  have hb := fun i (hi : i < m) => byt_ext0 t hi hm
  have he := fun a b (h : b ≤ m) => ext_ext t (a := a) h hm
  unfold refW at hw ⊢
  rw [hsz] at hw ⊢
  by_cases hc : m < 3 ∨ byt (t.extract 0 m) 0 ≠ 38 ∨ byt (t.extract 0 m) (m - 1) ≠ 59
  · rw [if_pos hc] at hw; exact absurd hw (by decide)
  rw [if_neg hc] at hw ⊢
  have h38 : byt t 0 = 38 := by
    rw [← hb 0 (by omega)]
    exact Classical.byContradiction fun h => hc (.inr (.inl h))
  have h59 : byt t (m - 1) = 59 := by
    rw [← hb (m - 1) (by omega)]
    exact Classical.byContradiction fun h => hc (.inr (.inr h))
  refine ⟨h38, ?_⟩
  rw [he 1 (m - 1) (by omega), he 3 (m - 1) (by omega), he 2 (m - 1) (by omega), hb 1 (by omega), hb 2 (by omega)] at hw ⊢
  have hend : ∀ f : Fm, fmOf t = f → runE t = runTo f.p t f.most f.skip := by rintro f rfl; rfl
  cases hf : findN (t.extract 1 (m - 1)) with
  | some r =>
    obtain ⟨k1, k2, k3, _, _⟩ := findN_fact hf
    have hks : (t.extract 1 (m - 1)).size = m - 2 := by rw [ByteArray.size_extract]; omega
    have hkb : ∀ j, 1 ≤ j → j < m - 1 → letP (byt t j) = true := fun j h1 h2 => by
      have := k3 (j - 1) (by omega)
      rwa [byt_extract t 1 _ _ (by omega) (by omega), show 1 + (j - 1) = j by omega] at this
    have hfm : fmOf t = fmLet := fm_let fun h => let_35 (hkb 1 (by omega) (by omega)) h.2
    have hr : runE t = m - 1 := by
      rw [hend _ hfm]
      exact runTo_is _ _ (by show 1 ≤ _; omega) (by show _ ≤ 1 + 6; omega) (fun j h1 h2 => ⟨by omega, hkb j h1 h2⟩) (.inr (by rw [h59]; exact p_59 _))
    unfold entH
    rw [hr, hfm, if_neg (by show ¬ (_ = 1 ∨ _ ∨ _); rw [h59]; omega), if_pos (show fmLet.base = 0 from rfl)]
    show (findN (t.extract 1 (m - 1))).map _ = _
    rw [hf, show m - 1 + 1 = m by omega]
    rfl
  | none =>
    rw [hf] at hw
    simp only at hw ⊢
    by_cases h35 : byt t 1 ≠ 35
    · rw [if_pos h35] at hw; exact absurd hw (by decide)
    rw [if_neg h35] at hw ⊢
    have h35 : byt t 1 = 35 := Classical.byContradiction h35
    by_cases hx : 3 < m ∧ isX (byt t 2)
    · rw [if_pos hx] at hw ⊢
      obtain ⟨k1, k2, k3, k4⟩ := refN_ok hw
      have hks : (t.extract 3 (m - 1)).size = m - 1 - 3 := by rw [ByteArray.size_extract]; omega
      have hkb : ∀ j, 3 ≤ j → j < m - 1 → hexP (byt t j) = true := fun j h1 h2 => by
        have := k3 (j - 3) (by omega)
        rwa [byt_extract t 3 _ _ (by omega) (by omega), show 3 + (j - 3) = j by omega] at this
      have hfm : fmOf t = fmHex := fm_hex ⟨by omega, h35, hx.2⟩
      have hr : runE t = m - 1 := by
        rw [hend _ hfm]
        exact runTo_is _ _ (by show 3 ≤ _; omega) (by show _ ≤ 3 + 6; omega) (fun j h1 h2 => ⟨by omega, hkb j h1 h2⟩) (.inr (by rw [h59]; exact p_59 _))
      unfold entH
      rw [hr, hfm, if_neg (by show ¬ (_ = 3 ∨ _ ∨ _); rw [h59]; omega), if_neg (by decide), k4, show m - 1 + 1 = m by omega]
      rfl
    · rw [if_neg hx] at hw ⊢
      obtain ⟨k1, k2, k3, k4⟩ := refN_ok hw
      have hks : (t.extract 2 (m - 1)).size = m - 1 - 2 := by rw [ByteArray.size_extract]; omega
      have hkb : ∀ j, 2 ≤ j → j < m - 1 → decP (byt t j) = true := fun j h1 h2 => by
        have := k3 (j - 2) (by omega)
        rwa [byt_extract t 2 _ _ (by omega) (by omega), show 2 + (j - 2) = j by omega] at this
      have hfm : fmOf t = fmDec := fm_dec ⟨by omega, h35⟩ fun h => dec_x (hkb 2 (by omega) (by omega)) h.2
      have hr : runE t = m - 1 := by
        rw [hend _ hfm]
        exact runTo_is _ _ (by show 2 ≤ _; omega) (by show _ ≤ 2 + 7; omega) (fun j h1 h2 => ⟨by omega, hkb j h1 h2⟩) (.inr (by rw [h59]; exact p_59 _))
      unfold entH
      rw [hr, hfm, if_neg (by show ¬ (_ = 2 ∨ _ ∨ _); rw [h59]; omega), if_neg (by decide), k4, show m - 1 + 1 = m by omega]
      rfl
/-- And the other way. -/
theorem head_whole {t : ByteArray} {r : Int} {n : Nat} (h0 : byt t 0 = 38) (h : entH t = some (r, n)) : 3 ≤ n ∧ n ≤ 10 ∧ n ≤ t.size ∧ refW (t.extract 0 n) = r ∧ 0 ≤ r := by
  unfold entH at h
  split at h
  · cases h
  rename_i hc
  have hc1 : runE t ≠ (fmOf t).skip := fun h => hc (.inl h)
  have hc2 : runE t < t.size := by
    rcases Nat.lt_or_ge (runE t) t.size with h | h
    · exact h
    · exact absurd (.inr (.inl h)) hc
  have hc3 : byt t (runE t) = 59 := Classical.byContradiction fun h => hc (.inr (.inr h))
  have hge := runTo_ge (fmOf t).p t (fmOf t).most (fmOf t).skip
  have hall := fun j => runTo_all (fmOf t).p t (fmOf t).most (fmOf t).skip j
  change (fmOf t).skip ≤ runE t ∧ runE t ≤ _ at hge
  change ∀ j, _ → j < runE t → _ at hall
  generalize runE t = e at *
  have hsz : (t.extract 0 (e + 1)).size = e + 1 := by rw [ByteArray.size_extract]; omega
  have hb := fun i (hi : i < e + 1) => byt_ext0 t hi (show e + 1 ≤ t.size by omega)
  have he := fun a b (h : b ≤ e + 1) => ext_ext t (a := a) h (show e + 1 ≤ t.size by omega)
  have hw : 2 ≤ e → refW (t.extract 0 (e + 1)) = match findN (t.extract 1 e) with
      | some r => r
      | none => if byt t 1 ≠ 35 then -1 else if 3 < e + 1 ∧ isX (byt t 2) then refN 16 6 (t.extract 3 e) else refN 10 7 (t.extract 2 e) := by
    intro h2
    unfold refW
    rw [hsz, Nat.add_sub_cancel, if_neg (by rw [hb 0 (by omega), hb e (by omega)]; omega), he 1 e (by omega), he 3 e (by omega), he 2 e (by omega), hb 1 (by omega), hb 2 (by omega)]
  rcases fm_cases t with ⟨hf, k1, k2, k3⟩ | ⟨hf, k1, k2, k3⟩ | ⟨hf, k1⟩
  · rw [hf] at h hge hall hc1
    rw [if_neg (by decide)] at h
    simp only [Option.some.injEq, Prod.mk.injEq] at h
    obtain ⟨rfl, rfl⟩ := h
    have hg1 : 3 ≤ e := hge.1
    have hg2 : e ≤ 3 + 6 := hge.2
    have hg3 : e ≠ 3 := hc1
    have hno : findN (t.extract 1 e) = none := by
      cases hfi : findN (t.extract 1 e) with
      | none => rfl
      | some r =>
        obtain ⟨_, _, k5, _⟩ := findN_fact hfi
        have := k5 0 (by rw [ByteArray.size_extract]; omega)
        rw [byt_extract t 1 e 0 (by omega) (by omega)] at this
        exact absurd k2 (let_35 this)
    refine ⟨by omega, by omega, by omega, ?_, scal_nonneg _⟩
    rw [hw (by omega), hno]
    simp only
    rw [if_neg (by rw [k2]; decide), if_pos ⟨by omega, k3⟩]
    refine refN_yes (by rw [ByteArray.size_extract]; omega) (by rw [ByteArray.size_extract]; omega) fun i hi => ?_
    rw [ByteArray.size_extract] at hi
    rw [byt_extract t 3 e i (by omega) (by omega)]
    exact (hall (3 + i) (by show 3 ≤ _; omega) (by omega)).2
  · rw [hf] at h hge hall hc1
    rw [if_neg (by decide)] at h
    simp only [Option.some.injEq, Prod.mk.injEq] at h
    obtain ⟨rfl, rfl⟩ := h
    have hg1 : 2 ≤ e := hge.1
    have hg2 : e ≤ 2 + 7 := hge.2
    have hg3 : e ≠ 2 := hc1
    have hno : findN (t.extract 1 e) = none := by
      cases hfi : findN (t.extract 1 e) with
      | none => rfl
      | some r =>
        obtain ⟨_, _, k5, _⟩ := findN_fact hfi
        have := k5 0 (by rw [ByteArray.size_extract]; omega)
        rw [byt_extract t 1 e 0 (by omega) (by omega)] at this
        exact absurd k2 (let_35 this)
    refine ⟨by omega, by omega, by omega, ?_, scal_nonneg _⟩
    rw [hw (by omega), hno]
    simp only
    rw [if_neg (by rw [k2]; decide), if_neg (fun h => k3 ⟨by omega, h.2⟩)]
    refine refN_yes (by rw [ByteArray.size_extract]; omega) (by rw [ByteArray.size_extract]; omega) fun i hi => ?_
    rw [ByteArray.size_extract] at hi
    rw [byt_extract t 2 e i (by omega) (by omega)]
    exact (hall (2 + i) (by show 2 ≤ _; omega) (by omega)).2
  · rw [hf] at h hge hall hc1
    rw [if_pos (show fmLet.base = 0 from rfl)] at h
    obtain ⟨q, hq, hqe⟩ := Option.map_eq_some_iff.1 h
    simp only [Prod.mk.injEq] at hqe
    obtain ⟨rfl, rfl⟩ := hqe
    have hg1 : 1 ≤ e := hge.1
    have hg2 : e ≤ 1 + 6 := hge.2
    have hg3 : e ≠ 1 := hc1
    have hq' : findN (t.extract 1 e) = some q := hq
    refine ⟨by omega, by omega, by omega, ?_, Int.le_of_lt (findN_fact hq).2.2.2.1⟩
    rw [hw (by omega), hq']
theorem refGo_none {s : ByteArray} {i : Nat} (h : ∀ n, 3 ≤ n → n ≤ 10 → i + n ≤ s.size → refW (s.extract i (i + n)) < 0) : ∀ f n, 3 ≤ n → refGo s i f n = none
  | 0, _, _ => rfl
  | f + 1, n, hn => by
    unfold refGo
    split
    · rename_i hc
      rw [if_neg (by have := h n hn hc.1 hc.2; omega)]
      exact refGo_none h f (n + 1) (by omega)
    · rfl
theorem refGo_some {s : ByteArray} {i k : Nat} (hk : k ≤ 10) (hs : i + k ≤ s.size) (hw : 0 ≤ refW (s.extract i (i + k))) (h : ∀ n, 3 ≤ n → n < k → refW (s.extract i (i + n)) < 0) : ∀ f n, 3 ≤ n → n ≤ k → k < n + f → refGo s i f n = some (refW (s.extract i (i + k)), k)
  | 0, n, _, h1, h2 => by omega
  | f + 1, n, hn, h1, h2 => by
    unfold refGo
    rw [if_pos ⟨by omega, by omega⟩]
    by_cases he : n = k
    · subst he
      rw [if_pos hw]
    · rw [if_neg (by have := h n hn (by omega); omega)]
      exact refGo_some hk hs hw h f (n + 1) (by omega) (by omega) (by omega)
theorem ref_ent (s : ByteArray) (i : Nat) (hi : i < s.size) : refR s i = entR s i := by
  have hti : ((i : Int)).toNat = i := Int.toNat_natCast i
  have hts : (s.extract i s.size).size = s.size - i := by rw [ByteArray.size_extract]; omega
  have hex : ∀ n, i + n ≤ s.size → s.extract i (i + n) = (s.extract i s.size).extract 0 n := by
    intro n hn
    apply ext_byt
    · rw [ByteArray.size_extract, ByteArray.size_extract, ByteArray.size_extract]; omega
    · intro j hj
      rw [ByteArray.size_extract] at hj
      rw [byt_extract _ _ _ j (by omega) (by omega), byt_ext0 _ (by omega) (by omega), byt_extract _ _ _ j (by omega) (by omega)]
  have h0 : byt (s.extract i s.size) 0 = byt s i := by rw [byt_extract _ _ _ 0 (by omega) (by omega), Nat.add_zero]
  have hneg : entR s i = none → ∀ n, 3 ≤ n → n ≤ 10 → i + n ≤ s.size → refW (s.extract i (i + n)) < 0 := by
    intro he n h3 h10 hn
    rw [hex n hn]
    rcases Int.lt_or_le (refW ((s.extract i s.size).extract 0 n)) 0 with h | h
    · exact h
    · obtain ⟨k0, k1⟩ := whole_head h3 h10 (by omega) h
      unfold entR at he
      rw [hti, if_pos ⟨by omega, by omega, by rw [← h0]; exact k0⟩, k1] at he
      cases he
  cases he : entR s i with
  | none => exact refGo_none (hneg he) 8 3 (by decide)
  | some q =>
    obtain ⟨r, n⟩ := q
    unfold entR at he
    rw [hti] at he
    split at he
    case isFalse => cases he
    rename_i hc
    have h38 : byt (s.extract i s.size) 0 = 38 := by rw [h0]; exact hc.2.2
    obtain ⟨k3, k10, kn, kw, kr⟩ := head_whole h38 he
    have hin : i + n ≤ s.size := by omega
    unfold refR
    rw [refGo_some k10 hin (by rw [hex n hin, kw]; exact kr) (fun m h3 hm => ?_) 8 3 (by decide) k3 (by omega), hex n hin, kw]
    rw [hex m (by omega)]
    rcases Int.lt_or_le (refW ((s.extract i s.size).extract 0 m)) 0 with h | h
    · exact h
    · have := (whole_head h3 (by omega) (by omega) h).2
      rw [he] at this
      simp only [Option.some.injEq, Prod.mk.injEq] at this
      omega
end Go.Proofs.YtddbbgjpfdcjfaaDoor
