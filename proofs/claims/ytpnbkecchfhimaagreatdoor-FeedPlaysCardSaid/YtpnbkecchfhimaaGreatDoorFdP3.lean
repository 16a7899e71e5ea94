/- Chapter 20: what a feeder holds, fed: the plain law. Of no program. -/
import Derived.Test.YtpnbkecchfhimaaGreatDoorFdM2
namespace Go.Proofs.YtpnbkecchfhimaaGreatDoor
set_option linter.unusedVariables false
set_option maxRecDepth 100000

theorem drop_take_drop {α : Type} (l : List α) (m e k : Nat) : ((l.drop m).take e).drop k = (l.take (m + e)).drop (m + k) := by
  apply List.ext_getElem?
  intro i
  rw [List.getElem?_drop, List.getElem?_take, List.getElem?_drop, List.getElem?_drop, List.getElem?_take]
  by_cases h : k + i < e
  · rw [if_pos h, if_pos (by omega), Nat.add_assoc]
  · rw [if_neg h, if_neg (by omega)]
theorem begT_map (l : List Tk) (p : Nat) (m : Nat) (hm : 0 < m) (hl : m ≤ l.length) : begT (l.map (Tk.up p)) m = begT l m + p := by
  cases m with
  | zero => omega
  | succ m =>
    unfold begT
    simp only [List.getElem?_map]
    rw [List.getElem?_eq_getElem (by omega)]
    rfl
theorem begT_drop (l : List Tk) (m j : Nat) (hj : 0 < j) : begT (l.drop m) j = begT l (m + j) := by
  cases j with
  | zero => omega
  | succ j =>
    show (match (l.drop m)[j]? with | none => 0 | some t => t.til) = (match l[m + j]? with | none => 0 | some t => t.til)
    rw [List.getElem?_drop]
theorem keepB_up (p : Nat) (t : Tk) : keepB (Tk.up p t) = keepB t := rfl
/-- What is behind one piece more. -/
structure FdNext (s' t : ByteArray) (m k p : Nat) : Prop where
  kle : k ≤ (toks t).length
  len : (toks t).length = (toks s').length - m
  mle : m ≤ (toks s').length
  out : ∀ e, k ≤ e → e ≤ (toks t).length → (((toks t).take e).drop k).map (Tk.up p) = ((toks s').take (m + e)).drop (m + k)
  set : ∀ i, setB t (toks t) i = setB s' (toks s') (m + i)
  next : ∀ e, k ≤ e → m + e ≤ setN s' → FdOk s' (m + (nextM (toks t) e).1) (nextM (toks t) e).2 ∧ (nextM (toks t) e).1 + (nextM (toks t) e).2 = e
  beg : ∀ j, j ≤ (toks t).length → p + begT (toks t) j = begT (toks s') (m + j)
  left : ∀ e, leftN (toks t) e t.size = if (toks s').length ≤ m + e then 0 else (s'.size : Int) - ((((toks s').getD (m + e) ⟨0, 0, 0, noB, 0, false⟩).fr : Nat) : Int)
  told : m + k ≤ setN s'
theorem FdOk.feed {s s' t : ByteArray} {m k p : Nat} (h : FdOk s m k) (hp : Pre s s') (hpe : p = begT (toks s) m) (ht : t = s'.extract p s'.size) : FdNext s' t m k p := by
  obtain ⟨h', hta, hbe⟩ := h.grow hp
  have hps : p ≤ s'.size := by rw [hpe, ← hbe]; exact begT_le (by have := h'.le; omega)
  have hfrom := toks_from (s := s') (m := m) (by have := h'.le; omega) h'.not7
  rw [hbe, ← hpe] at hfrom
  have hext := toksAt_ext s' p hps _ 0 (Nat.le_refl _)
  rw [Nat.add_zero] at hext
  have hext : (toks s').drop m = (toks t).map (Tk.up p) := by rw [← hfrom, hext, ht]; rfl
  have hlen : (toks t).length = (toks s').length - m := by
    have := congrArg List.length hext
    rw [List.length_drop, List.length_map] at this
    omega
  have hml : m ≤ (toks s').length := by have := h'.le; omega
  have hts : t.size = s'.size - p := by rw [ht, ext_size]
  have hset : ∀ i, setB t (toks t) i = setB s' (toks s') (m + i) := fun i => by
    rw [ht, setB_ext s' p hps i, hfrom, setB_drop]
  have hbeg : ∀ j, j ≤ (toks t).length → p + begT (toks t) j = begT (toks s') (m + j) := fun j hj => by
    cases j with
    | zero => rw [Nat.add_zero, hbe, ← hpe]; rfl
    | succ j =>
      have e1 : begT (toks s') (m + (j + 1)) = begT ((toks s').drop m) (j + 1) := (begT_drop _ m (j + 1) (Nat.succ_pos _)).symm
      rw [e1, hext, begT_map _ _ _ (Nat.succ_pos _) hj, Nat.add_comm]
  have hgetD : ∀ e, e < (toks t).length → ((toks t).getD e ⟨0, 0, 0, noB, 0, false⟩).up p = (toks s').getD (m + e) ⟨0, 0, 0, noB, 0, false⟩ := fun e he => by
    have h1 := congrArg (·[e]?) hext
    simp only [List.getElem?_drop, List.getElem?_map] at h1
    rw [List.getD_eq_getElem?_getD, List.getD_eq_getElem?_getD, h1, List.getElem?_eq_getElem he]
    rfl
  refine ⟨by have := h'.le; omega, hlen, hml, fun e h1 h2 => ?_, hset, fun e h1 h2 => ?_, hbeg, fun e => ?_, h'.le_setN⟩
  · rw [List.map_drop, List.map_take, ← hext, drop_take_drop]
  · cases e with
    | zero =>
      have hk0 : k = 0 := by omega
      subst hk0
      exact ⟨h', rfl⟩
    | succ e =>
      have hel : e < (toks t).length := by have := setN_le s'; omega
      have hme : m + e < (toks s').length := by omega
      have hget : (toks s')[m + (e + 1) - 1]? = some ((toks s')[m + e]'hme) := by
        rw [show m + (e + 1) - 1 = m + e by omega]
        exact List.getElem?_eq_getElem hme
      have hn := FdOk.next (s := s') (n := m + (e + 1)) h2 (by omega) hget
      have hkp : keepB ((toks t).getD e ⟨0, 0, 0, noB, 0, false⟩) = keepB ((toks s')[m + e]'hme) := by
        have := hgetD e hel
        rw [← keepB_up p, this, List.getD_eq_getElem?_getD, List.getElem?_eq_getElem hme]
        rfl
      unfold nextM
      simp only
      rw [hkp]
      by_cases hk : keepB ((toks s')[m + e]'hme) = true
      · rw [if_pos hk] at hn ⊢
        exact ⟨hn, rfl⟩
      · rw [if_neg hk] at hn ⊢
        exact ⟨hn, rfl⟩
  · unfold leftN
    by_cases hle : (toks t).length ≤ e
    · rw [if_pos hle, if_pos (by omega)]
    · rw [if_neg hle, if_neg (by omega), ← hgetD e (by omega)]
      show ((t.size : Nat) : Int) - _ = (s'.size : Int) - ((((toks t).getD e ⟨0, 0, 0, noB, 0, false⟩).fr + p : Nat) : Int)
      omega
theorem FdNext.cut {s' t : ByteArray} {m k p j : Nat} (h : FdNext s' t m k p) (ht : t = s'.extract p s'.size) (hj : j ≤ (toks t).length) : t.extract (begT (toks t) j) t.size = s'.extract (begT (toks s') (m + j)) s'.size := by
  rw [← h.beg j hj]
  subst ht
  exact ext_extT s' p _
theorem FdNext.stop {s' t : ByteArray} {m k p : Nat} (h : FdNext s' t m k p) : m + scanTo (fun i => !setB t (toks t) i) (toks t).length k = setN s' := by
  have h1 := setN_from (s := s') (T := m + k) (fun i hi => setN_set s' i (by have := h.told; omega)) _ 0 rfl (Nat.zero_le _) (by have := h.told; have := setN_le s'; omega)
  have h2 := scanTo_shift (p := fun i => !setB s' (toks s') i) (q := fun i => !setB t (toks t) i) (n := (toks t).length) (k := m) (fun j => by rw [h.set j]) k
  unfold setN
  rw [h1, ← h2, h.len]
  congr 1
  have := h.mle
  omega
end Go.Proofs.YtpnbkecchfhimaaGreatDoor
