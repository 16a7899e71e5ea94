/- Chapter 18: the document's mark, one state for each byte; and the reader's is the same. Plain. -/
import Derived.Test.YtpkbmgpbagdalaaTagPl
namespace Go.Proofs.Ytpkbmgpbagdalaa
set_option linter.unusedVariables false

structure St where
  state : Nat
  slash : Bool
  name : ByteArray
  value : ByteArray
  quote : Int
  tname : ByteArray
  attrs : List (ByteArray × ByteArray)
/-- One byte: the next state, and whether the mark ends. -/
def stepT (st : St) (c : Int) (ch : ByteArray) : St × Bool :=
  match st.state with
  | 0 => if blankB c = true ∨ c = 47 ∨ c = 62 then ({ st with state := 1, slash := c == 47 }, c == 62) else ({ st with tname := st.tname ++ lowerB ch }, false)
  | 1 => if c = 62 then (st, true) else if blankB c = true ∨ c = 47 then ({ st with slash := c == 47 }, false) else ({ st with state := 2, name := lowerB ch, value := ⟨#[]⟩ }, false)
  | 2 => if c = 61 then ({ st with state := 4 }, false) else if blankB c = true then ({ st with state := 3 }, false)
    else if c = 47 ∨ c = 62 then ({ st with attrs := st.attrs ++ [(st.name, ⟨#[]⟩)], state := 1, slash := c == 47 }, c == 62) else ({ st with name := st.name ++ lowerB ch }, false)
  | 3 => if blankB c = true then (st, false) else if c = 61 then ({ st with state := 4 }, false)
    else if c = 47 ∨ c = 62 then ({ st with attrs := st.attrs ++ [(st.name, ⟨#[]⟩)], state := 1, slash := c == 47 }, c == 62)
    else ({ st with attrs := st.attrs ++ [(st.name, ⟨#[]⟩)], state := 2, slash := false, name := lowerB ch, value := ⟨#[]⟩ }, false)
  | 4 => if blankB c = true then (st, false) else if c = 34 ∨ c = 39 then ({ st with state := 6, quote := c }, false)
    else if c = 62 then ({ st with attrs := st.attrs ++ [(st.name, ⟨#[]⟩)], state := 1, slash := false }, true) else ({ st with state := 5, value := ch }, false)
  | 5 => if blankB c = true ∨ c = 62 then ({ st with attrs := st.attrs ++ [(st.name, st.value)], state := 1, slash := false }, c == 62) else ({ st with value := st.value ++ ch }, false)
  | _ => if c = st.quote then ({ st with attrs := st.attrs ++ [(st.name, st.value)], state := 1, slash := false }, false) else ({ st with value := st.value ++ ch }, false)
def at1 (s : ByteArray) (i : Nat) : ByteArray := s.extract i (i + 1)
def runT (s : ByteArray) (kd : Int) : Nat → Nat → St → Mk
  | 0, i, st => ⟨kd, s.size, st.tname, if 2 ≤ st.state then st.attrs ++ [(st.name, st.value)] else st.attrs, false, false⟩
  | f + 1, i, st =>
    if (stepT st (byt s i) (at1 s i)).2 = true then ⟨kd, i + 1, (stepT st (byt s i) (at1 s i)).1.tname, (stepT st (byt s i) (at1 s i)).1.attrs, (stepT st (byt s i) (at1 s i)).1.slash, true⟩
    else runT s kd f (i + 1) (stepT st (byt s i) (at1 s i)).1
/-- What is read from i on, in a state. -/
def fromT (s : ByteArray) (kd : Int) (i : Nat) (st : St) : Mk := runT s kd (s.size - i) i st
def st0 : St := ⟨0, false, ⟨#[]⟩, ⟨#[]⟩, 0, ⟨#[]⟩, []⟩
def refNamed (s : ByteArray) (i : Nat) (kd : Int) : Mk := fromT s kd i st0

theorem fromT_end (s : ByteArray) (kd : Int) (i : Nat) (st : St) (h : s.size ≤ i) : fromT s kd i st = ⟨kd, s.size, st.tname, if 2 ≤ st.state then st.attrs ++ [(st.name, st.value)] else st.attrs, false, false⟩ := by
  unfold fromT
  rw [show s.size - i = 0 by omega]
  rfl
theorem fromT_step (s : ByteArray) (kd : Int) (i : Nat) (st : St) (h : i < s.size) : fromT s kd i st =
    if (stepT st (byt s i) (at1 s i)).2 = true then ⟨kd, i + 1, (stepT st (byt s i) (at1 s i)).1.tname, (stepT st (byt s i) (at1 s i)).1.attrs, (stepT st (byt s i) (at1 s i)).1.slash, true⟩
    else fromT s kd (i + 1) (stepT st (byt s i) (at1 s i)).1 := by
  unfold fromT
  rw [show s.size - i = (s.size - (i + 1)) + 1 by omega]
  rfl
theorem fromT_go (s : ByteArray) (kd : Int) (i : Nat) (st st' : St) (h : i < s.size) (hs : stepT st (byt s i) (at1 s i) = (st', false)) : fromT s kd i st = fromT s kd (i + 1) st' := by
  rw [fromT_step s kd i st h, hs]
  rfl
theorem fromT_stop (s : ByteArray) (kd : Int) (i : Nat) (st st' : St) (h : i < s.size) (hs : stepT st (byt s i) (at1 s i) = (st', true)) : fromT s kd i st = ⟨kd, i + 1, st'.tname, st'.attrs, st'.slash, true⟩ := by
  rw [fromT_step s kd i st h, hs]
  rfl

theorem ext_append (s : ByteArray) (i j k : Nat) (h1 : i ≤ j) (h2 : j ≤ k) (h3 : k ≤ s.size) : s.extract i j ++ s.extract j k = s.extract i k := by
  apply ByteArray.ext
  rw [ByteArray.data_append]
  simp only [ByteArray.data_extract]
  rw [Array.extract_append_extract, Nat.min_eq_left h1, Nat.max_eq_right h2]
theorem low_append (x y : ByteArray) : lowerB (x ++ y) = lowerB x ++ lowerB y := by
  apply ByteArray.ext
  simp [lowerB, ByteArray.data_append]
theorem ext_self (s : ByteArray) (i : Nat) : s.extract i i = ⟨#[]⟩ := by
  apply ByteArray.ext
  simp
theorem low_empty : lowerB ⟨#[]⟩ = ⟨#[]⟩ := by
  apply ByteArray.ext
  simp [lowerB]
theorem append_empty (x : ByteArray) : x ++ ⟨#[]⟩ = x := by
  apply ByteArray.ext
  simp [ByteArray.data_append]
theorem append_assoc3 (x y z : ByteArray) : x ++ y ++ z = x ++ (y ++ z) := by
  apply ByteArray.ext
  simp [ByteArray.data_append]
theorem passTo_no (p : Int → Bool) (s : ByteArray) : ∀ (f i : Nat), s.size - i = f → passTo p s i < s.size → p (byt s (passTo p s i)) = false
  | 0, i, hf, h => by
    rw [passTo_end (by omega)] at h
    omega
  | f + 1, i, hf, h => by
    cases hp : p (byt s i)
    · rw [passTo_stop (by omega) hp]; exact hp
    · rw [passTo_step (by omega) hp] at h ⊢
      exact passTo_no p s f (i + 1) (by omega) h
/-- A reader that runs over bytes in a state that stays. -/
theorem runs (s : ByteArray) (kd : Int) (p : Int → Bool) (upd : St → ByteArray → St)
    (hnil : ∀ st, upd st ⟨#[]⟩ = st) (happ : ∀ st x y, upd (upd st x) y = upd st (x ++ y)) (ok : St → Prop) (hok : ∀ st x, ok st → ok (upd st x))
    (hstep : ∀ st c ch, ok st → p c = true → stepT st c ch = (upd st ch, false)) :
    ∀ (f i : Nat) (st : St), s.size - i = f → i ≤ s.size → ok st → fromT s kd i st = fromT s kd (passTo p s i) (upd st (s.extract i (passTo p s i)))
  | 0, i, st, hf, hi, ho => by
    rw [passTo_end (by omega), ext_self, hnil]
  | f + 1, i, st, hf, hi, ho => by
    have hlt : i < s.size := by omega
    cases hp : p (byt s i)
    · rw [passTo_stop hlt hp, ext_self, hnil]
    · rw [fromT_go s kd i st _ hlt (hstep st _ _ ho hp), runs s kd p upd hnil happ ok hok hstep f (i + 1) _ (by omega) (by omega) (hok _ _ ho), happ, passTo_step hlt hp]
      have h1 := passTo_ge p s (i + 1)
      have h2 := passTo_le p s (i := i + 1) (by omega)
      unfold at1
      rw [ext_append s i (i + 1) _ (by omega) h1 h2]

def fin (kd : Int) (t : ByteArray) (R : Rd) : Mk := ⟨kd, R.at_, t, R.attrs, R.single, R.closed⟩

theorem endSl_empty (s : ByteArray) (i : Nat) : endSl (s.extract i i) = false := by
  rw [ext_self]
  rfl
theorem endSl_snoc (s : ByteArray) (i k : Nat) (h : i ≤ k) (hk : k < s.size) : endSl (s.extract i (k + 1)) = (byt s k == 47) := by
  have h1 : endSl (s.extract i (k + 1)) = true ↔ byt s k = 47 := by
    unfold endSl
    have hsz : (s.extract i (k + 1)).size = k + 1 - i := by rw [ByteArray.size_extract]; omega
    rw [hsz, Bool.and_eq_true, decide_eq_true_eq]
    have hex : (s.extract i (k + 1)).extract (k + 1 - i - 1) (k + 1 - i) = at1 s k := by
      apply ext_byt
      · unfold at1
        simp only [ByteArray.size_extract]
        omega
      · intro j hj
        rw [ByteArray.size_extract, hsz] at hj
        unfold at1
        rw [byt_extract _ _ _ _ (by omega) (by omega), byt_extract _ _ _ _ (by omega) (by omega), byt_extract _ _ _ _ (by omega) (by omega)]
        congr 1
        omega
    rw [hex, beq_iff_eq, str_toList_inj]
    have hone : at1 s k = ⟨#[47]⟩ ↔ byt s k = 47 := by
      constructor
      · intro he
        have := congrArg (fun x => byt x 0) he
        change byt _ 0 = byt _ 0 at this
        unfold at1 at this
        rw [byt_extract s k (k + 1) 0 (by omega) (by omega), Nat.add_zero] at this
        rw [this]
        rfl
      · intro he
        apply ext_byt
        · unfold at1
          rw [ByteArray.size_extract]
          show min (k + 1) s.size - k = 1
          omega
        · intro j hj
          have hj0 : j = 0 := by
            unfold at1 at hj
            rw [ByteArray.size_extract] at hj
            omega
          subst hj0
          unfold at1
          rw [byt_extract s k (k + 1) 0 (by omega) (by omega), Nat.add_zero, he]
          rfl
    rw [hone]
    exact ⟨fun h => h.2, fun h => ⟨by omega, h⟩⟩
  by_cases h2 : byt s k = 47
  · rw [h1.2 h2, h2]; rfl
  · rw [Bool.eq_false_iff.2 (fun h => h2 (h1.1 h))]
    simp [h2]

theorem blank_not {c : Int} (h : blankB c = true) : c ≠ 47 ∧ c ≠ 62 ∧ c ≠ 61 ∧ c ≠ 34 ∧ c ≠ 39 := by
  unfold blankB at h
  simp only [Bool.or_eq_true, beq_iff_eq] at h
  omega

/-- What holds behind an attribute, or at the start: between attributes. -/
def Bet (s : ByteArray) (kd : Int) (i0 : Nat) : Prop :=
  ∀ (i : Nat) (st : St), i0 ≤ i → i ≤ s.size → st.state = 1 → st.slash = endSl (s.extract i0 i) → passTo skipC s i0 = passTo skipC s i → fromT s kd i st = fin kd st.tname (restAt s i0 st.attrs)

/-- An attribute's end at e: by the byte that stands there. -/
theorem bet_at (s : ByteArray) (kd : Int) (e : Nat) (hb : Bet s kd e) (he : e < s.size) (c : Int) (hc : byt s e = c) (h : blankB c = true ∨ c = 47) (st : St) (h1 : st.state = 1) (hs : st.slash = (c == 47)) :
    fromT s kd (e + 1) st = fin kd st.tname (restAt s e st.attrs) := by
  refine hb (e + 1) st (by omega) he h1 ?_ ?_
  · rw [endSl_snoc s e e (Nat.le_refl _) he, hc, hs]
  · refine passTo_step he ?_
    rw [hc]
    unfold skipC
    rcases h with h | h
    · rw [h]; rfl
    · subst h; simp
theorem close_at (s : ByteArray) (kd : Int) (e : Nat) (he : e < s.size) (hc : byt s e = 62) (acc) (t : ByteArray) : (⟨kd, e + 1, t, acc, false, true⟩ : Mk) = fin kd t (restAt s e acc) := by
  have hk : passTo skipC s e = e := passTo_stop he (by rw [hc]; rfl)
  rw [restAt_close s e acc (by omega) (by rw [hk]; exact he) (by rw [hk]; exact hc), hk, endSl_empty]
  rfl
theorem end_at (s : ByteArray) (kd : Int) (acc) (t : ByteArray) : (⟨kd, s.size, t, acc, false, false⟩ : Mk) = fin kd t (restAt s s.size acc) := by
  have hk : passTo skipC s s.size = s.size := passTo_end (Nat.le_refl _)
  rw [restAt_end s s.size acc (Nat.le_refl _) (by rw [hk]; exact Nat.le_refl _), hk]
  rfl

/-- In a value in quotes. -/
theorem in6 (s : ByteArray) (kd : Int) (k : Nat) (hk : k < s.size) (st : St) (h6 : st.state = 6) (hv : st.value = ⟨#[]⟩) (hB : ∀ e, k < e → e ≤ s.size → Bet s kd e) :
    fromT s kd (k + 1) st = fin kd st.tname (restAt s (quotedV st.quote s k).2 (st.attrs ++ [(st.name, (quotedV st.quote s k).1)])) := by
  have hr := runs s kd (fun c => c != st.quote) (fun x y => { x with value := x.value ++ y }) (fun x => by simp [append_empty]) (fun x y z => by simp [append_assoc3]) (fun x => x.state = 6 ∧ x.quote = st.quote) (fun x y h => h)
    (fun x c ch h hp => by
      unfold stepT
      rw [h.1]
      simp only
      rw [h.2, if_neg (by simpa using hp)]) _ (k + 1) st rfl (by omega) ⟨h6, rfl⟩
  have h1 := passTo_ge (fun c => c != st.quote) s (k + 1)
  have h2 := passTo_le (fun c => c != st.quote) s (i := k + 1) (by omega)
  rw [hr]
  unfold quotedV
  simp only
  rw [hv]
  generalize hj : passTo (fun c => c != st.quote) s (k + 1) = j at *
  have hes : (⟨#[]⟩ : ByteArray) ++ s.extract (k + 1) j = s.extract (k + 1) j := by
    apply ByteArray.ext
    simp [ByteArray.data_append]
  rw [hes]
  by_cases hjs : j < s.size
  · have hq : byt s j = st.quote := by
      have := passTo_no (fun c => c != st.quote) s _ (k + 1) rfl (by rw [hj]; exact hjs)
      rw [hj] at this
      simpa using this
    rw [if_pos hjs]
    rw [fromT_go s kd j _ { st with attrs := st.attrs ++ [(st.name, s.extract (k + 1) j)], value := s.extract (k + 1) j, state := 1, slash := false } hjs (by
      unfold stepT
      simp only [h6]
      rw [if_pos hq])]
    exact hB (j + 1) (by omega) (by omega) (j + 1) _ (Nat.le_refl _) (by omega) rfl (by rw [endSl_empty]) rfl
  · rw [if_neg hjs]
    obtain rfl : j = s.size := by omega
    rw [fromT_end s kd _ _ (Nat.le_refl _)]
    simp only [h6]
    rw [if_pos (by decide)]
    exact end_at s kd _ _
end Go.Proofs.Ytpkbmgpbagdalaa
