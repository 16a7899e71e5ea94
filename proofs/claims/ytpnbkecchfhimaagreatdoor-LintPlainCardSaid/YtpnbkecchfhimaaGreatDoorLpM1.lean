/- Texts of LpP, LpT, merged by a program of mine. -/
import Derived.Test.YtpnbkecchfhimaaGreatDoorLiM1

/- out of LpP -/
namespace Go.Proofs.YtpnbkecchfhimaaGreatDoor
open Go.RowKit Go.Shelf
set_option linter.unusedVariables false
set_option maxRecDepth 100000

/-- A whole sequence of more than one byte. -/
structure Mul (p : List Int) : Prop where
  two : 2 ≤ p.length
  hi : ∀ x ∈ p, 128 ≤ x ∧ x ≤ 255
  read : ∀ l, (S1.readF (p ++ l)).2 = (p.length, true)
/-- Whole scalars, no escape. -/
inductive Good : List Int → Prop
  | nil : Good []
  | one (c : Int) (l : List Int) : 0 ≤ c → c < 128 → c ≠ 27 → Good l → Good (c :: l)
  | many (p l : List Int) : Mul p → Good l → Good (p ++ l)
theorem readF_low {c : Int} (h : c < 128) (l : List Int) : S1.readF (c :: l) = (c, 1, true) := by
  have e : S1.needN c = 1 := if_pos h
  have ht : ∀ lo hi, S1.thereGo l 0 lo hi = 0 := fun lo hi => by cases l <;> rfl
  unfold S1.readF
  simp only [e]
  rw [if_neg (by decide), show ((1 : Int).toNat - 1) = 0 from rfl, ht, if_neg (by decide)]
  rfl
theorem there_take : ∀ (m : Nat) (t : List Int) (lo hi : Int), 128 ≤ lo → hi ≤ 191 → S1.thereGo t m lo hi = m → (t.take m).length = m ∧ (∀ x ∈ t.take m, 128 ≤ x ∧ x ≤ 191) ∧ ∀ l, S1.thereGo (t.take m ++ l) m lo hi = m
  | 0, t, lo, hi, _, _, _ => ⟨by simp, by simp, fun l => by cases l <;> simp [S1.thereGo]⟩
  | m + 1, [], lo, hi, _, _, h => by simp [S1.thereGo] at h
  | m + 1, c :: t, lo, hi, h1, h2, h => by
    unfold S1.thereGo at h
    split at h
    · rename_i hc
      obtain ⟨a1, a2, a3⟩ := there_take m t 128 191 (by decide) (by decide) (by omega)
      rw [List.take_succ_cons]
      refine ⟨by rw [List.length_cons, a1], fun x hx => ?_, fun l => ?_⟩
      · rcases List.mem_cons.1 hx with rfl | hx
        · omega
        · exact a2 x hx
      · rw [List.cons_append]
        unfold S1.thereGo
        rw [if_pos hc, a3]
    · omega
theorem mul_of {c : Int} {t : List Int} (hc : ¬ c < 128) (hb : c ≤ 255) (hw : (S1.readF (c :: t)).2.2 = true) : Mul ((c :: t).take (S1.readF (c :: t)).2.1) ∧ (S1.readF (c :: t)).2.1 ≤ (c :: t).length := by
  have hn : S1.needN c = 0 ∨ S1.needN c = 2 ∨ S1.needN c = 3 ∨ S1.needN c = 4 := by
    unfold S1.needN
    rw [if_neg hc]
    repeat' split
    all_goals simp
  have hlo : 128 ≤ S1.needLo c := by
    unfold S1.needLo
    split
    · decide
    · split <;> decide
  have hhi : S1.needHi c ≤ 191 := by
    unfold S1.needHi
    split
    · decide
    · split <;> decide
  by_cases h0 : S1.needN c = 0
  · unfold S1.readF at hw
    simp only [h0, if_pos] at hw
    cases hw
  · obtain ⟨n, hnn⟩ : ∃ n : Nat, S1.needN c = ((n + 1 : Nat) : Int) ∧ 1 ≤ n ∧ n ≤ 3 := by
      rcases hn with h | h | h | h
      · exact absurd h h0
      · exact ⟨1, h, by decide, by decide⟩
      · exact ⟨2, h, by decide, by decide⟩
      · exact ⟨3, h, by decide, by decide⟩
    have hr : ∀ t, S1.readF (c :: t) = if ((S1.thereGo t n (S1.needLo c) (S1.needHi c) + 1 : Nat) : Int) < ((n + 1 : Nat) : Int) then (65533, S1.thereGo t n (S1.needLo c) (S1.needHi c) + 1, false) else (S1.valueF ((c :: t).take (n + 1)), n + 1, true) := fun t => by
      unfold S1.readF
      simp only [hnn.1]
      rw [if_neg (by omega)]
      rfl
    have hle := (S1.thereGo_le t n (S1.needLo c) (S1.needHi c)).2
    have hk : S1.thereGo t n (S1.needLo c) (S1.needHi c) = n := by
      rw [hr] at hw
      split at hw
      · cases hw
      · omega
    obtain ⟨a1, a2, a3⟩ := there_take n t _ _ hlo hhi hk
    have hs : (S1.readF (c :: t)).2.1 = n + 1 := by
      rw [hr, if_neg (by rw [hk]; omega)]
    have hlen : n ≤ t.length := by rw [List.length_take] at a1; omega
    rw [hs, List.take_succ_cons]
    refine ⟨⟨by rw [List.length_cons, a1]; omega, fun x hx => ?_, fun l => ?_⟩, by rw [List.length_cons]; omega⟩
    · rcases List.mem_cons.1 hx with rfl | hx
      · omega
      · have := a2 x hx; omega
    · rw [List.cons_append, hr, if_neg (by rw [a3]; omega), List.length_cons, a1]
/-- Bytes whose pieces are whole, and no escape. -/
theorem good_of : ∀ (f i : Nat) (l : List Int), l.length ≤ f → (∀ x ∈ l, 0 ≤ x ∧ x ≤ 255) → (∀ p ∈ S1.pcsGo f i l, p.whole = true ∧ p.r ≠ 27) → Good l
  | _, _, [], _, _, _ => .nil
  | 0, _, c :: t, h, _, _ => by simp at h
  | f + 1, i, c :: t, h, hb, hp => by
    have hp' : ∀ p ∈ (⟨i, (S1.readF (c :: t)).2.1, (S1.readF (c :: t)).1, (S1.readF (c :: t)).2.2⟩ :: S1.pcsGo f (i + (S1.readF (c :: t)).2.1) ((c :: t).drop (S1.readF (c :: t)).2.1) : List S1.Pc), p.whole = true ∧ p.r ≠ 27 := hp
    have h1 := hp' _ (List.mem_cons_self ..)
    have h2 : ∀ p ∈ S1.pcsGo f (i + (S1.readF (c :: t)).2.1) ((c :: t).drop (S1.readF (c :: t)).2.1), p.whole = true ∧ p.r ≠ 27 := fun p hp => hp' p (List.mem_cons_of_mem _ hp)
    have hc := hb c (List.mem_cons_self ..)
    simp only at h1
    by_cases hlow : c < 128
    · rw [readF_low hlow] at h1 h2
      exact .one c t hc.1 hlow h1.2 (good_of f _ t (by simpa using h) (fun x hx => hb x (List.mem_cons_of_mem _ hx)) h2)
    · obtain ⟨hm, hle⟩ := mul_of (t := t) hlow hc.2 h1.1
      have hz := S1.readF_size c t
      have e := List.take_append_drop (S1.readF (c :: t)).2.1 (c :: t)
      rw [← e]
      exact .many _ _ hm (good_of f _ _ (by rw [List.length_drop]; simp at h ⊢; omega) (fun x hx => hb x (List.mem_of_mem_drop hx)) h2)

def escC (c : Int) : List Int := if c = 38 then [38, 97, 109, 112, 59] else if c = 60 then [38, 108, 116, 59] else if c = 62 then [38, 103, 116, 59] else [c]
def escL (l : List Int) : List Int := l.flatMap escC
/-- An escaped text. -/
inductive Cln : List Int → Prop
  | nil : Cln []
  | amp (l : List Int) : Cln l → Cln (38 :: 97 :: 109 :: 112 :: 59 :: l)
  | lt (l : List Int) : Cln l → Cln (38 :: 108 :: 116 :: 59 :: l)
  | gt (l : List Int) : Cln l → Cln (38 :: 103 :: 116 :: 59 :: l)
  | one (c : Int) (l : List Int) : 0 ≤ c → c < 128 → c ≠ 27 → c ≠ 38 → c ≠ 60 → Cln l → Cln (c :: l)
  | many (p l : List Int) : Mul p → Cln l → Cln (p ++ l)
theorem escL_hi : ∀ p : List Int, (∀ x ∈ p, 128 ≤ x ∧ x ≤ 255) → escL p = p
  | [], _ => rfl
  | c :: p, h => by
    have hc := h c (List.mem_cons_self ..)
    show escC c ++ escL p = _
    rw [escL_hi p fun x hx => h x (List.mem_cons_of_mem _ hx)]
    unfold escC
    rw [if_neg (by omega), if_neg (by omega), if_neg (by omega)]
    rfl
theorem cln_esc {l : List Int} (h : Good l) : Cln (escL l) := by
  induction h with
  | nil => exact .nil
  | one c l h0 h1 h2 hg ih =>
    show Cln (escC c ++ escL l)
    unfold escC
    split
    · exact .amp _ ih
    · split
      · exact .lt _ ih
      · split
        · exact .gt _ ih
        · exact .one c _ h0 h1 h2 (by assumption) (by assumption) ih
  | many p l hm hg ih =>
    have e : escL (p ++ l) = p ++ escL l := by
      unfold escL
      rw [List.flatMap_append]
      congr 1
      exact escL_hi p hm.hi
    rw [e]
    exact .many p _ hm ih
/-- A run of whole scalars without marks. -/
structure Run (P : List Int) : Prop where
  no : ∀ x ∈ P, x ≠ 38 ∧ x ≠ 60 ∧ x ≠ 27
  tx : ∀ f b, txFg f P b = []
theorem valid_low {c : Int} (h : c < 128) : S1.validF [c] = true := by
  unfold S1.validF S1.pcs
  show List.all (S1.pcsGo 1 0 [c]) _ = true
  unfold S1.pcsGo
  simp only
  rw [readF_low h]
  rfl
theorem valid_mul {p : List Int} (h : Mul p) : S1.validF p = true := by
  obtain ⟨c, t, rfl⟩ : ∃ c t, p = c :: t := by
    cases p with
    | nil => have := h.two; simp at this
    | cons c t => exact ⟨c, t, rfl⟩
  have hr := h.read []
  rw [List.append_nil] at hr
  unfold S1.validF S1.pcs
  show List.all (S1.pcsGo (t.length + 1) 0 (c :: t)) _ = true
  unfold S1.pcsGo
  simp only
  rw [hr]
  simp only [List.all_cons, Bool.true_and]
  rw [List.drop_eq_nil_of_le (Nat.le_refl _), S1.pcsGo_nil]
  rfl
theorem Run.one {c : Int} {P : List Int} (h1 : c < 128) (h2 : c ≠ 27) (h3 : c ≠ 38) (h4 : c ≠ 60) (h : Run P) : Run (c :: P) := by
  refine ⟨fun x hx => ?_, fun f b => ?_⟩
  · rcases List.mem_cons.1 hx with rfl | hx
    · exact ⟨h3, h4, h2⟩
    · exact h.no x hx
  · cases f with
    | zero => rfl
    | succ f =>
      unfold txFg
      rw [if_neg (by simp)]
      unfold pcFg
      rw [readF_low h1]
      show (if S1.validF [c] = false then _ else _) ++ txFg f P _ = []
      rw [valid_low h1, if_neg (by decide), h.tx, if_neg (by show ¬ (c = 60 ∨ c = 38); omega)]
      rfl
theorem Run.many {p P : List Int} (hm : Mul p) (h : Run P) : Run (p ++ P) := by
  have hh := hm.two
  refine ⟨fun x hx => ?_, fun f b => ?_⟩
  · rcases List.mem_append.1 hx with hx | hx
    · have := hm.hi x hx; omega
    · exact h.no x hx
  · cases f with
    | zero => rfl
    | succ f =>
      have hr := hm.read P
      have hd : ∀ z, (p ++ P).headD z = p.headD z := fun z => by cases p with | nil => simp at hh | cons c t => rfl
      have hc : p.headD 0 ∈ p := by cases p with | nil => simp at hh | cons c t => exact List.mem_cons_self ..
      have := hm.hi _ hc
      unfold txFg
      rw [if_neg (by intro e; have := congrArg List.length e; rw [List.length_append] at this; simp only [List.length_nil] at this; omega)]
      unfold pcFg
      rw [hr]
      simp only
      rw [List.take_left, List.drop_left, valid_mul hm, if_neg (by decide), h.tx, hd, if_neg (by omega)]
      rfl
/-- A reference that stands for one of the three marks. -/
def RefQ (q : List Int) : Prop := q = [38, 97, 109, 112, 59] ∨ q = [38, 108, 116, 59] ∨ q = [38, 103, 116, 59]
theorem cln_run {R : List Int} (h : Cln R) : ∃ P R', R = P ++ R' ∧ Run P ∧ Cln R' ∧ (R' = [] ∨ ∃ q R2, RefQ q ∧ R' = q ++ R2 ∧ Cln R2) := by
  have h0 : Run [] := ⟨(fun x hx => by cases hx), (fun f b => by cases f <;> rfl)⟩
  induction h with
  | nil => exact ⟨[], [], rfl, h0, .nil, .inl rfl⟩
  | amp l hl ih => exact ⟨[], _, rfl, h0, .amp l hl, .inr ⟨_, l, .inl rfl, rfl, hl⟩⟩
  | lt l hl ih => exact ⟨[], _, rfl, h0, .lt l hl, .inr ⟨_, l, .inr (.inl rfl), rfl, hl⟩⟩
  | gt l hl ih => exact ⟨[], _, rfl, h0, .gt l hl, .inr ⟨_, l, .inr (.inr rfl), rfl, hl⟩⟩
  | one c l a b d e f hl ih =>
    obtain ⟨P, R', rfl, hP, hR, ho⟩ := ih
    exact ⟨c :: P, R', rfl, hP.one b d e f, hR, ho⟩
  | many p l hm hl ih =>
    obtain ⟨P, R', rfl, hP, hR, ho⟩ := ih
    exact ⟨p ++ P, R', (List.append_assoc ..).symm, hP.many hm, hR, ho⟩
end Go.Proofs.YtpnbkecchfhimaaGreatDoor

/- out of LpT -/
namespace Go.Proofs.YtpnbkecchfhimaaGreatDoor
open Go.RowKit Go.Shelf
set_option linter.unusedVariables false
set_option maxRecDepth 100000

/-- Of a token nothing is found, and none opens. -/
def Quiet (S : ByteArray) (t : Tk) : Prop := ∀ x, stepL S x t = x
def ampQ : ByteArray := ⟨#[38, 97, 109, 112, 59]⟩
def ltQ : ByteArray := ⟨#[38, 108, 116, 59]⟩
def gtQ : ByteArray := ⟨#[38, 103, 116, 59]⟩
theorem refq_ent {q : List Int} (h : RefQ q) : ∃ (Q : ByteArray) (r : Int), intsOf Q = q ∧ entH Q = some (r, Q.size) ∧ 0 < Q.size ∧ byt Q 0 = 38 := by
  rcases h with rfl | rfl | rfl
  · exact ⟨ampQ, 38, by kernel_rfl, by kernel_rfl, by decide, by decide⟩
  · exact ⟨ltQ, 60, by kernel_rfl, by kernel_rfl, by decide, by decide⟩
  · exact ⟨gtQ, 62, by kernel_rfl, by kernel_rfl, by decide, by decide⟩
theorem byt_ints (s : ByteArray) (i : Nat) (h : i < s.size) : (intsOf s)[i]? = some (byt s i) := by
  rw [List.getElem?_eq_getElem (by rw [intsOf_len]; exact h), ← intsOf_get, List.getD_eq_getElem?_getD, List.getElem?_eq_getElem (by rw [intsOf_len]; exact h)]
  rfl
theorem ints_ext {x : ByteArray} {l : List Int} (hl : x.size = l.length) (h : ∀ j, j < l.length → l[j]? = some (byt x j)) : intsOf x = l := by
  apply List.ext_getElem?
  intro j
  by_cases hj : j < l.length
  · rw [byt_ints x j (by omega), h j hj]
  · rw [List.getElem?_eq_none (by rw [intsOf_len]; omega), List.getElem?_eq_none (by omega)]
/-- From a boundary of an escaped text on: only quiet tokens, up to its end. -/
theorem cln_toks (S : ByteArray) (e : Nat) (he : e ≤ S.size) (hend : e = S.size ∨ specB S e = true) : ∀ (n i : Nat) (R : List Int), R.length ≤ n → i + R.length = e → (∀ j, j < R.length → R[j]? = some (byt S (i + j))) → Cln R →
    ∃ L, toksAt S i = L ++ toksAt S e ∧ ∀ t ∈ L, Quiet S t := by
  intro n
  induction n with
  | zero =>
    intro i R hn hi hb hc
    have : R = [] := List.eq_nil_of_length_eq_zero (by omega)
    subst this
    obtain rfl : i = e := by simpa using hi
    exact ⟨[], rfl, fun t h => by cases h⟩
  | succ n ih =>
    intro i R hn hi hb hc
    -- a reference at a place
    have href : ∀ (i : Nat) (q R2 : List Int), RefQ q → i + (q ++ R2).length = e → (∀ j, j < (q ++ R2).length → (q ++ R2)[j]? = some (byt S (i + j))) → ∃ r, specA S i = some ⟨1, q.length, noB, r, false, false⟩ := by
      intro i q R2 hq hi hb
      obtain ⟨Q, r, e1, e2, e3, e4⟩ := refq_ent hq
      have hql : q.length = Q.size := by rw [← e1, intsOf_len]
      rw [List.length_append] at hi
      have hil : i < S.size := by omega
      have hby : ∀ j, j < Q.size → byt S (i + j) = byt Q j := fun j hj => by
        have h1 := hb j (by rw [List.length_append]; omega)
        rw [List.getElem?_append_left (by omega), ← e1, byt_ints Q j hj] at h1
        injection h1 with h1
        exact h1.symm
      have hpre : Pre Q (S.extract i S.size) := ⟨by rw [ext_size]; omega, fun j hj => by rw [byt_ext S i j (by omega)]; exact hby j hj⟩
      have h38 : byt S i = 38 := by have := hby 0 e3; rw [Nat.add_zero] at this; rw [this, e4]
      refine ⟨r, ?_⟩
      rw [specF_ent hil h38, entH_some_grow hpre e3 e4 e2, hql]
      rfl
    obtain ⟨P, R', rfl, hP, hR', ho⟩ := cln_run hc
    rw [List.length_append] at hi hn hb
    have hb' : ∀ j, j < R'.length → R'[j]? = some (byt S (i + P.length + j)) := fun j hj => by
      have := hb (P.length + j) (by omega)
      rw [List.getElem?_append_right (by omega), show P.length + j - P.length = j by omega] at this
      rw [this, Nat.add_assoc]
    by_cases hP0 : P = []
    · subst hP0
      simp only [List.nil_append, List.length_nil, Nat.add_zero, Nat.zero_add] at *
      rcases ho with rfl | ⟨q, R2, hq, rfl, hR2⟩
      · obtain rfl : i = e := by simpa using hi
        exact ⟨[], rfl, fun t h => by cases h⟩
      · obtain ⟨r, hs⟩ := href i q R2 hq (by omega) hb'
        have hq0 : 0 < q.length := by rcases hq with rfl | rfl | rfl <;> decide
        rw [List.length_append] at hi hn
        obtain ⟨L, hL, hQ⟩ := ih (i + q.length) R2 (by omega) (by omega) (fun j hj => by
          have := hb' (q.length + j) (by rw [List.length_append]; omega)
          rw [List.getElem?_append_right (by omega), show q.length + j - q.length = j by omega] at this
          rw [this, Nat.add_assoc]) hR2
        refine ⟨spTk i ⟨1, q.length, noB, r, false, false⟩ :: L, ?_, fun t ht => ?_⟩
        · rw [toksAt_spec (by omega) hs (fun h => by cases h.1), List.cons_append, ← hL]
        · rcases List.mem_cons.1 ht with rfl | ht
          · intro x
            unfold stepL
            rw [if_neg (by show ¬ (1 : Int) = 0; decide), if_neg (by show ¬ ((1 : Int) = 2 ∨ (1 : Int) = 3); decide), if_neg (by show ¬ (1 : Int) = 6; decide), if_neg (by show ¬ ((1 : Int) = 4 ∨ (1 : Int) = 5); decide)]
          · exact hQ t ht
    · have hPl : 0 < P.length := List.length_pos_iff.2 hP0
      have hPb : ∀ j, j < P.length → P[j]? = some (byt S (i + j)) := fun j hj => by
        have := hb j (by omega)
        rwa [List.getElem?_append_left hj] at this
      have hno : ∀ j, j < P.length → ¬ spcB (byt S (i + j)) := fun j hj hs => by
        have h1 := hPb j hj
        have hm := hP.no (byt S (i + j)) (List.mem_of_getElem? h1)
        rcases hs with h | h | h <;> omega
      have hnA : specA S i = none := specA_no (by have := hno 0 hPl; rwa [Nat.add_zero] at this)
      have hte : textE S i = i + P.length := by
        have hs1 : ∀ d, ∀ k, P.length - k = d → 1 ≤ k → k ≤ P.length → scanTo (specB S) S.size (i + k) = scanTo (specB S) S.size (i + P.length) := by
          intro d
          induction d with
          | zero => intro k hd h1 h2; rw [show k = P.length by omega]
          | succ d ihd =>
            intro k hd h1 h2
            rw [scanTo_step (by omega) (by unfold specB; rw [specA_no (hno k (by omega))]; rfl), Nat.add_assoc]
            exact ihd (k + 1) (by omega) (by omega) (by omega)
        unfold textE
        rw [hs1 _ 1 rfl (Nat.le_refl _) hPl]
        rcases ho with rfl | ⟨q, R2, hq, rfl, hR2⟩
        · have : i + P.length = e := by simpa using hi
          rw [this]
          rcases hend with h | h
          · exact scanTo_end (by omega)
          · by_cases hlt : e < S.size
            · exact scanTo_stop hlt h
            · exact scanTo_end (by omega)
        · obtain ⟨r, hs⟩ := href (i + P.length) q R2 hq (by omega) hb'
          have hq0 : 0 < q.length := by rcases hq with rfl | rfl | rfl <;> decide
          rw [List.length_append] at hi
          exact scanTo_stop (by omega) (by unfold specB; rw [hs]; rfl)
      obtain ⟨L, hL, hQ⟩ := ih (i + P.length) R' (by omega) (by omega) hb' hR'
      refine ⟨textTk i (i + P.length) :: L, ?_, fun t ht => ?_⟩
      · rw [toksAt_text (by omega) hnA, hte, List.cons_append, ← hL]
      · rcases List.mem_cons.1 ht with rfl | ht
        · intro x
          have hseg : segL S (textTk i (i + P.length)) = P := by
            unfold segL
            refine ints_ext (by rw [ByteArray.size_extract]; show min (i + P.length) S.size - i = P.length; omega) fun j hj => ?_
            rw [hPb j hj]
            exact congrArg some (byt_extract S i (i + P.length) j (by omega) (by omega)).symm
          unfold stepL
          rw [if_pos (by rfl), hseg, hP.tx, List.append_nil]
        · exact hQ t ht
theorem quiet_fold (S : ByteArray) : ∀ (L : List Tk) (x : Fs), (∀ t ∈ L, Quiet S t) → L.foldl (stepL S) x = x
  | [], x, _ => rfl
  | t :: L, x, h => by rw [List.foldl_cons, h t (List.mem_cons_self ..)]; exact quiet_fold S L x fun u hu => h u (List.mem_cons_of_mem _ hu)
/-- .. so what is found there is what is found behind. -/
theorem cln_fold (S : ByteArray) (i e : Nat) (he : e ≤ S.size) (hend : e = S.size ∨ specB S e = true) (R : List Int) (hi : i + R.length = e) (hb : ∀ j, j < R.length → R[j]? = some (byt S (i + j))) (hc : Cln R) (x : Fs) :
    (toksAt S i).foldl (stepL S) x = (toksAt S e).foldl (stepL S) x := by
  obtain ⟨L, hL, hQ⟩ := cln_toks S e he hend _ i R (Nat.le_refl _) hi hb hc
  rw [hL, List.foldl_append, quiet_fold S L x hQ]
def endQ : ByteArray := ⟨#[60, 47, 98, 62]⟩
def begQ : ByteArray := ⟨#[60, 98, 62]⟩
def bName : ByteArray := ⟨#[98]⟩
theorem endQ_toks : toks endQ = [⟨3, 0, 4, bName, 0, false⟩] := by kernel_rfl
theorem begQ_toks : toks begQ = [⟨2, 0, 3, bName, 0, false⟩] := by kernel_rfl
theorem endQ_read : (readV endQ ((0 : Nat) : Int)).1.closed = true := by kernel_rfl
theorem begQ_read : (readV begQ ((0 : Nat) : Int)).1.closed = true := by kernel_rfl
theorem void_b : voidB bName = false := by kernel_rfl
theorem ext_right (t q : ByteArray) : (t ++ q).extract t.size (t ++ q).size = q := by
  rw [ByteArray.size_append]
  apply ByteArray.ext
  rw [ByteArray.data_extract, ByteArray.data_append]
  simp only [← ByteArray.size_data]
  rw [Array.extract_append_right]
  simp
theorem tail_toks (t q : ByteArray) : toksAt (t ++ q) t.size = (toks q).map (Tk.up t.size) := by
  have h := toksAt_ext (t ++ q) t.size (by rw [ByteArray.size_append]; omega) ((t ++ q).size - t.size - 0) 0 (Nat.le_refl _)
  rw [Nat.add_zero, ext_right] at h
  exact h
theorem tail_spec (t q : ByteArray) (hq : 0 < q.size) (h0 : ∃ sp, specA q 0 = some sp) (h60 : byt q 0 = 60) : specB (t ++ q) t.size = true := by
  have hby : byt (t ++ q) t.size = 60 := by have := byt_right t q 0; rw [Nat.add_zero] at this; rw [this, h60]
  have hsz : t.size < (t ++ q).size := by rw [ByteArray.size_append]; omega
  obtain ⟨sp, hs⟩ := h0
  rw [specF_tag hq h60] at hs
  unfold specB
  rw [specF_tag hsz hby, ext_right]
  split at hs
  · rename_i hh
    have h1 := hh.1
    have h2 := hh.2
    rw [show q.extract 0 q.size = q by simp] at h2
    rw [if_pos ⟨by rw [ByteArray.size_append]; omega, h2⟩]
    rfl
  · cases hs
theorem endQ_spec : ∃ sp, specA endQ 0 = some sp := by
  cases h : specA endQ 0 with
  | none => exact absurd (congrArg Option.isSome h) (by show ¬ specB endQ 0 = false; rw [show specB endQ 0 = true from by kernel_rfl]; decide)
  | some sp => exact ⟨sp, rfl⟩
theorem begQ_spec : ∃ sp, specA begQ 0 = some sp := by
  cases h : specA begQ 0 with
  | none => exact absurd (congrArg Option.isSome h) (by show ¬ specB begQ 0 = false; rw [show specB begQ 0 = true from by kernel_rfl]; decide)
  | some sp => exact ⟨sp, rfl⟩
theorem ints_bytes (t q : ByteArray) (j : Nat) (hj : j < (intsOf t).length) : (intsOf t)[j]? = some (byt (t ++ q) (0 + j)) := by
  rw [intsOf_len] at hj
  rw [byt_ints t j hj, Nat.zero_add, byt_left t q j hj]
theorem tail_read (t q : ByteArray) (h : 0 < q.size) : readV (t ++ q) (t.size : Int) = readV q ((0 : Nat) : Int) := by
  have := readV_extF (t ++ q) t.size 0 (by rw [ByteArray.size_append]; omega)
  rw [ext_right, Nat.add_zero] at this
  exact this.symm
/-- Nothing is found in it. -/
theorem fin_plain {t : ByteArray} (h : Cln (intsOf t)) : finL t = fs0 := by
  have := cln_fold t 0 t.size (Nat.le_refl _) (.inl rfl) (intsOf t) (by rw [intsOf_len]; omega) (fun j hj => by rw [intsOf_len] at hj; rw [byt_ints t j hj, Nat.zero_add]) h fs0
  unfold finL toks
  rw [this, toksAt_end (Nat.le_refl _)]
  rfl
theorem fin_end {t : ByteArray} (h : Cln (intsOf t)) : finL (t ++ endQ) = ⟨fun _ => [], [⟨4, t.size⟩]⟩ := by
  have := cln_fold (t ++ endQ) 0 t.size (by rw [ByteArray.size_append]; omega) (.inr (tail_spec t endQ (by decide) endQ_spec (by decide))) (intsOf t) (by rw [intsOf_len]; omega) (ints_bytes t endQ) h fs0
  unfold finL toks
  rw [this, tail_toks, endQ_toks]
  show stepL (t ++ endQ) fs0 (Tk.up t.size ⟨3, 0, 4, bName, 0, false⟩) = _
  have hr : (readV (t ++ endQ) (((Tk.up t.size ⟨3, 0, 4, bName, 0, false⟩).fr : Nat) : Int)).1.closed = true := by
    rw [show (Tk.up t.size ⟨3, 0, 4, bName, 0, false⟩).fr = t.size from by show 0 + t.size = t.size; omega, tail_read t endQ (by decide)]
    exact endQ_read
  unfold stepL
  rw [if_neg (by show ¬ (3 : Int) = 0; decide), if_pos (by show (3 : Int) = 2 ∨ (3 : Int) = 3; decide), hr, if_neg (by decide), if_neg (by show ¬ (3 : Int) = 2; decide), if_pos (show fs0.op (Tk.up t.size ⟨3, 0, 4, bName, 0, false⟩).name = [] from rfl)]
  rw [show (Tk.up t.size ⟨3, 0, 4, bName, 0, false⟩).fr = t.size from by show 0 + t.size = t.size; omega]
  rfl
theorem fin_beg {t : ByteArray} (h : Cln (intsOf t)) : finL (t ++ begQ) = ⟨updO (fun _ => []) bName [(t.size : Int)], []⟩ := by
  have := cln_fold (t ++ begQ) 0 t.size (by rw [ByteArray.size_append]; omega) (.inr (tail_spec t begQ (by decide) begQ_spec (by decide))) (intsOf t) (by rw [intsOf_len]; omega) (ints_bytes t begQ) h fs0
  unfold finL toks
  rw [this, tail_toks, begQ_toks]
  show stepL (t ++ begQ) fs0 (Tk.up t.size ⟨2, 0, 3, bName, 0, false⟩) = _
  have hr : (readV (t ++ begQ) (((Tk.up t.size ⟨2, 0, 3, bName, 0, false⟩).fr : Nat) : Int)).1.closed = true := by
    rw [show (Tk.up t.size ⟨2, 0, 3, bName, 0, false⟩).fr = t.size from by show 0 + t.size = t.size; omega, tail_read t begQ (by decide)]
    exact begQ_read
  unfold stepL
  rw [if_neg (by show ¬ (2 : Int) = 0; decide), if_pos (by show (2 : Int) = 2 ∨ (2 : Int) = 3; decide), hr, if_neg (by decide), if_pos (by rfl), if_pos (by exact ⟨void_b, rfl⟩)]
  rw [show (Tk.up t.size ⟨2, 0, 3, bName, 0, false⟩).fr = t.size from by show 0 + t.size = t.size; omega]
  rfl
theorem fin_both {t : ByteArray} (h : Cln (intsOf t)) : finL (begQ ++ (t ++ endQ)) = ⟨updO (updO (fun _ => []) bName [0]) bName [], []⟩ := by
  have hpre : Pre begQ (begQ ++ (t ++ endQ)) := ⟨by rw [ByteArray.size_append]; omega, fun i hi => byt_left _ _ i hi⟩
  obtain ⟨sp, hsp⟩ := begQ_spec
  have htk : spTk 0 sp = ⟨2, 0, 3, bName, 0, false⟩ ∧ sp.raw = false := by
    obtain ⟨L, hL⟩ := toksAt_head (s := begQ) (i := 0) (by decide) hsp
    have h2 : toksAt begQ 0 = [⟨2, 0, 3, bName, 0, false⟩] := begQ_toks
    rw [h2] at hL
    injection hL with hL _
    have h3 : (specA begQ 0).map (·.raw) = some false := by kernel_rfl
    rw [hsp] at h3
    exact ⟨hL.symm, by injection h3⟩
  have hset := specA_set_grow hpre (i := 0) (by decide) hsp (L := []) (by rw [htk.1]; kernel_rfl)
  have hA : specA (begQ ++ (t ++ endQ)) 0 = some sp := hset.1
  have hz : 0 + sp.size = 3 := by
    have := congrArg Tk.til htk.1
    exact this
  have hsz : (begQ ++ (t ++ endQ)).size = 3 + (t.size + 4) := by rw [ByteArray.size_append, ByteArray.size_append]; rfl
  have h0 : toksAt (begQ ++ (t ++ endQ)) 0 = ⟨2, 0, 3, bName, 0, false⟩ :: toksAt (begQ ++ (t ++ endQ)) 3 := by
    rw [toksAt_spec (by omega) hA (fun hh => by rw [htk.2] at hh; exact absurd hh.1 (by decide)), htk.1, hz]
  have hass : begQ ++ (t ++ endQ) = (begQ ++ t) ++ endQ := by
    apply ByteArray.ext
    simp [ByteArray.data_append, Array.append_assoc]
  have hs3 : (begQ ++ t).size = 3 + t.size := by rw [ByteArray.size_append]; rfl
  have hspe : specB (begQ ++ (t ++ endQ)) (3 + t.size) = true := by
    rw [hass, ← hs3]
    exact tail_spec _ endQ (by decide) endQ_spec (by decide)
  have hfold := cln_fold (begQ ++ (t ++ endQ)) 3 (3 + t.size) (by omega) (.inr hspe) (intsOf t) (by rw [intsOf_len]) (fun j hj => by
    have hj' : j < t.size := by rwa [intsOf_len] at hj
    have := byt_right begQ (t ++ endQ) j
    rw [show begQ.size = 3 from rfl] at this
    rw [byt_ints t j hj', this, byt_left t endQ j hj']) h
  have htail : toksAt (begQ ++ (t ++ endQ)) (3 + t.size) = [Tk.up (3 + t.size) ⟨3, 0, 4, bName, 0, false⟩] := by
    rw [hass, ← hs3, tail_toks, endQ_toks]
    rfl
  have hr0 : (readV (begQ ++ (t ++ endQ)) ((0 : Nat) : Int)).1.closed = true := by
    have := hset.2 []
    rw [htk.1] at this
    exact this
  have hr1 : (readV (begQ ++ (t ++ endQ)) ((3 + t.size : Nat) : Int)).1.closed = true := by
    rw [hass, ← hs3, tail_read _ endQ (by decide)]
    exact endQ_read
  have hs1 : stepL (begQ ++ (t ++ endQ)) fs0 ⟨2, 0, 3, bName, 0, false⟩ = ⟨updO (fun _ => []) bName [0], []⟩ := by
    unfold stepL
    rw [if_neg (by show ¬ (2 : Int) = 0; decide), if_pos (by show (2 : Int) = 2 ∨ (2 : Int) = 3; decide)]
    rw [if_neg (by show ¬ (readV (begQ ++ (t ++ endQ)) ((0 : Nat) : Int)).1.closed = false; rw [hr0]; decide), if_pos (by rfl), if_pos (by exact ⟨void_b, rfl⟩)]
    rfl
  unfold finL toks
  rw [h0, List.foldl_cons, hs1, hfold, htail]
  show stepL (begQ ++ (t ++ endQ)) _ (Tk.up (3 + t.size) ⟨3, 0, 4, bName, 0, false⟩) = _
  have hfr : (Tk.up (3 + t.size) ⟨3, 0, 4, bName, 0, false⟩).fr = 3 + t.size := by show 0 + (3 + t.size) = 3 + t.size; omega
  unfold stepL
  rw [if_neg (by show ¬ (3 : Int) = 0; decide), if_pos (by show (3 : Int) = 2 ∨ (3 : Int) = 3; decide), hfr]
  rw [if_neg (by rw [hr1]; decide), if_neg (by show ¬ (3 : Int) = 2; decide), if_neg (by show ¬ updO (fun _ => []) bName [0] bName = []; unfold updO; rw [if_pos rfl]; simp)]
  show Fs.mk (updO (updO (fun _ => []) bName [0]) bName (updO (fun _ => []) bName [0] bName).dropLast) [] = _
  rw [show updO (fun _ => []) bName [0] bName = [0] from if_pos rfl]
  rfl
/-- What is found in them, as lists. -/
theorem none_found {s : ByteArray} {l : List Fg} {op : ByteArray → List Int} (hf : finL s = ⟨op, []⟩) (ho : ∀ n, op n = []) (h : FoundL s l) : l = [] := by
  cases l with
  | nil => rfl
  | cons f l =>
    rcases (h.mem f).1 (List.mem_cons_self ..) with h1 | ⟨_, n, h1⟩
    · rw [hf] at h1; cases h1
    · rw [hf] at h1
      have h1 : f.at_ ∈ op n := h1
      rw [ho n] at h1; cases h1
theorem one_found {s : ByteArray} {l : List Fg} (h : FoundL s l) (g : Fg) (hg : ∀ f, memL (finL s) f ↔ f = g) : l = [g] :=
  rising_unique h.pw (by simp) fun f => (h.mem f).trans ((hg f).trans (by simp))
theorem found_plain {t : ByteArray} {l : List Fg} (h : Cln (intsOf t)) (hl : FoundL t l) : l = [] := none_found (fin_plain h) (fun n => rfl) hl
theorem found_both {t : ByteArray} {l : List Fg} (h : Cln (intsOf t)) (hl : FoundL (begQ ++ (t ++ endQ)) l) : l = [] := none_found (fin_both h) (fun n => by
  unfold updO
  by_cases hn : n = bName
  · rw [if_pos hn]
  · rw [if_neg hn, if_neg hn]) hl
theorem found_end {t : ByteArray} {l : List Fg} (h : Cln (intsOf t)) (hl : FoundL (t ++ endQ) l) : l = [⟨4, t.size⟩] := one_found hl _ fun f => by
  unfold memL
  rw [fin_end h]
  constructor
  · rintro (h1 | ⟨_, n, h1⟩)
    · exact List.mem_singleton.1 h1
    · cases h1
  · rintro rfl
    exact .inl (List.mem_singleton.2 rfl)
theorem found_beg {t : ByteArray} {l : List Fg} (h : Cln (intsOf t)) (hl : FoundL (t ++ begQ) l) : l = [⟨5, t.size⟩] := one_found hl _ fun f => by
  unfold memL
  rw [fin_beg h]
  obtain ⟨k, a⟩ := f
  constructor
  · rintro (h1 | ⟨h5, n, h1⟩)
    · cases h1
    · have h5 : k = 5 := h5
      have h1 : a ∈ updO (fun _ => []) bName [(t.size : Int)] n := h1
      unfold updO at h1
      split at h1
      · rw [h5, List.mem_singleton.1 h1]
      · cases h1
  · intro e
    injection e with e1 e2
    exact .inr ⟨e1, bName, by show a ∈ updO (fun _ => []) bName [(t.size : Int)] bName; unfold updO; rw [if_pos rfl, e2]; exact List.mem_singleton.2 rfl⟩
end Go.Proofs.YtpnbkecchfhimaaGreatDoor
