/- Chapter 23: items rise; plain text means its own scalars; items' bytes: plain laws. -/
import Derived.Test.YtlfbgaknljdanaaGreatDoorExM2
import Derived.Test.YtlfbgaknljdanaaGreatDoorPutR
namespace Go.Proofs.YtlfbgaknljdanaaGreatDoor
set_option linter.unusedVariables false
set_option maxRecDepth 100000

theorem readE_escX {s : ByteArray} {i : Nat} (h : 0 < (readE s i).size) : byt s i = 27 := by
  unfold readE at h
  split at h
  · rename_i hc
    rw [Int.toNat_natCast] at hc
    exact hc.2.2
  · exact absurd h (by decide)
/-- The bytes of items' scalars. -/
def itB : List It → ByteArray
  | [] => ⟨#[]⟩
  | x :: l => scB x.r ++ itB l
theorem itB_snoc (x : It) : ∀ l : List It, itB (l ++ [x]) = itB l ++ scB x.r
  | [] => by show scB x.r ++ ⟨#[]⟩ = ⟨#[]⟩ ++ scB x.r; rw [append_empty, empty_append]
  | y :: l => by
    show scB y.r ++ itB (l ++ [x]) = scB y.r ++ itB l ++ scB x.r
    rw [itB_snoc x l, append_assoc3]
theorem itB_size : ∀ l : List It, (itB l).size ≤ 4 * l.length
  | [] => Nat.le_refl _
  | x :: l => by
    have := itB_size l
    have := (scB_size x.r).1
    show (scB x.r ++ itB l).size ≤ 4 * (l.length + 1)
    rw [ByteArray.size_append]
    omega
/-- An item's place within a token. -/
def inTok (s : ByteArray) (x : It) : Prop :=
  (∃ t ∈ toks s, t.fr ≤ x.at_ ∧ x.at_ < t.til) ∧ ∀ t ∈ toks s, t.fr ≤ x.at_ → x.at_ < t.til → x.at_ + x.sz ≤ t.til ∧ (t.kind = 0 ∨ (t.kind ≠ 0 ∧ t.kind = 1 ∧ x.at_ = t.fr ∧ x.at_ + x.sz = t.til))
/-- Items from a place on, one behind the other, up to another place. -/
def chainI (s : ByteArray) : Nat → List It → Nat → Prop
  | a, [], e => a ≤ e
  | a, x :: l, e => a ≤ x.at_ ∧ 1 ≤ x.sz ∧ inTok s x ∧ chainI s (x.at_ + x.sz) l e
theorem chainI_le (s : ByteArray) : ∀ (l : List It) (a b e : Nat), a ≤ b → chainI s b l e → chainI s a l e
  | [], a, b, e, h, c => Nat.le_trans h c
  | x :: l, a, b, e, h, c => ⟨Nat.le_trans h c.1, c.2⟩
theorem chainI_app (s : ByteArray) : ∀ (l m : List It) (a b e : Nat), chainI s a l b → chainI s b m e → chainI s a (l ++ m) e
  | [], m, a, b, e, h, k => chainI_le s m a b e h k
  | x :: l, m, a, b, e, h, k => ⟨h.1, h.2.1, h.2.2.1, chainI_app s l m _ b e h.2.2.2 k⟩
theorem chainI_end (s : ByteArray) : ∀ (l : List It) (a b e : Nat), b ≤ e → chainI s a l b → chainI s a l e
  | [], a, b, e, h, c => Nat.le_trans c h
  | x :: l, a, b, e, h, c => ⟨c.1, c.2.1, c.2.2.1, chainI_end s l _ b e h c.2.2.2⟩
theorem tok_uniq (s : ByteArray) : ∀ (d i : Nat), s.size - i ≤ d → ∀ t ∈ toksAt s i, ∀ u ∈ toksAt s i, ∀ j, t.fr ≤ j → j < t.til → u.fr ≤ j → j < u.til → t = u := by
  intro d
  induction d with
  | zero =>
    intro i hd t ht
    rw [toksAt_end (by omega)] at ht
    cases ht
  | succ d ih =>
    intro i hd t ht u hu j h1 h2 h3 h4
    by_cases hi : i < s.size
    · cases hs : specA s i with
      | none =>
        have g1 := scanTo_ge (specB s) s.size (i + 1)
        have g2 : i < textE s i := by unfold textE; omega
        rw [toksAt_text hi hs] at ht hu
        rcases List.mem_cons.1 ht with rfl | ht
        · rcases List.mem_cons.1 hu with rfl | hu
          · rfl
          · have := (toksAt_mem s _ _ (Nat.le_refl _) u hu).1
            have h2' : j < textE s i := h2
            omega
        · rcases List.mem_cons.1 hu with rfl | hu
          · have := (toksAt_mem s _ _ (Nat.le_refl _) t ht).1
            have h4' : j < textE s i := h4
            omega
          · exact ih (textE s i) (by omega) t ht u hu j h1 h2 h3 h4
      | some sp =>
        have hb := specA_bd hs
        by_cases hr : sp.raw = true ∧ i + sp.size < rawE s sp.name (i + sp.size)
        · rw [toksAt_raw hi hs hr] at ht hu
          have hr2 := hr.2
          have a1 : (spTk i sp).til = i + sp.size := rfl
          have a2 : (rawTk (i + sp.size) (rawE s sp.name (i + sp.size))).fr = i + sp.size := rfl
          have a3 : (rawTk (i + sp.size) (rawE s sp.name (i + sp.size))).til = rawE s sp.name (i + sp.size) := rfl
          rcases List.mem_cons.1 ht with rfl | ht
          · rcases List.mem_cons.1 hu with rfl | hu
            · rfl
            · rcases List.mem_cons.1 hu with rfl | hu
              · omega
              · have := (toksAt_mem s _ _ (Nat.le_refl _) u hu).1
                omega
          · rcases List.mem_cons.1 ht with rfl | ht
            · rcases List.mem_cons.1 hu with rfl | hu
              · omega
              · rcases List.mem_cons.1 hu with rfl | hu
                · rfl
                · have := (toksAt_mem s _ _ (Nat.le_refl _) u hu).1
                  omega
            · rcases List.mem_cons.1 hu with rfl | hu
              · have := (toksAt_mem s _ _ (Nat.le_refl _) t ht).1
                omega
              · rcases List.mem_cons.1 hu with rfl | hu
                · have := (toksAt_mem s _ _ (Nat.le_refl _) t ht).1
                  omega
                · exact ih _ (by omega) t ht u hu j h1 h2 h3 h4
        · rw [toksAt_spec hi hs hr] at ht hu
          have a1 : (spTk i sp).til = i + sp.size := rfl
          rcases List.mem_cons.1 ht with rfl | ht
          · rcases List.mem_cons.1 hu with rfl | hu
            · rfl
            · have := (toksAt_mem s _ _ (Nat.le_refl _) u hu).1
              omega
          · rcases List.mem_cons.1 hu with rfl | hu
            · have := (toksAt_mem s _ _ (Nat.le_refl _) t ht).1
              omega
            · exact ih (i + sp.size) (by omega) t ht u hu j h1 h2 h3 h4
    · rw [toksAt_end (by omega)] at ht
      cases ht
theorem inTok_of {s : ByteArray} {t : Tk} (ht : t ∈ toks s) {x : It} (h1 : t.fr ≤ x.at_) (h2 : x.at_ < t.til) (h3 : x.at_ + x.sz ≤ t.til) (h4 : t.kind = 0 ∨ (t.kind ≠ 0 ∧ t.kind = 1 ∧ x.at_ = t.fr ∧ x.at_ + x.sz = t.til)) : inTok s x :=
  ⟨⟨t, ht, h1, h2⟩, fun u hu g1 g2 => by
    have := tok_uniq s _ 0 (Nat.le_refl _) t ht u hu x.at_ h1 h2 g1 g2
    subst this
    exact ⟨h3, h4⟩⟩
theorem pc_chain {s : ByteArray} {t : Tk} (ht : t ∈ toks s) (hk : t.kind = 0) (nb pr : Bool) : ∀ (d i : Nat), (seg s t).length - i ≤ d → i ≤ (seg s t).length → ∀ fo ch : Bool, chainI s (t.fr + i) (pcIts t.fr fo ch nb pr (S1.pcsFrom (seg s t) i)) t.til := by
  have hm := toks_mem ht
  have hl := seg_len (s := s) (t := t) hm.2.1
  intro d
  induction d with
  | zero =>
    intro i hd hi fo ch
    rw [S1.pcsFrom_end (by omega)]
    show t.fr + i ≤ t.til
    omega
  | succ d ih =>
    intro i hd hi fo ch
    by_cases h : i < (seg s t).length
    · have hs := S1.readF_drop_size h
      rw [S1.pcsFrom_step h]
      refine ⟨Nat.le_refl _, hs.1, inTok_of ht (x := ⟨_, t.fr + i, _, fo, ch, nb, pr⟩) (by show t.fr ≤ t.fr + i; omega) (by show t.fr + i < t.til; omega) (by have h2 := hs.2; show t.fr + i + (S1.readF ((seg s t).drop i)).2.1 ≤ t.til; omega) (.inl hk), ?_⟩
      have := ih (i + (S1.readF ((seg s t).drop i)).2.1) (by omega) (by omega) false false
      rw [← Nat.add_assoc] at this
      exact this
    · rw [S1.pcsFrom_end (by omega)]
      show t.fr + i ≤ t.til
      omega
theorem exTake_chain {s : ByteArray} {t : Tk} (ht : t ∈ toks s) (x : Xs) : chainI s t.fr (exTake x t (seg s t)).2 t.til := by
  have hm := toks_mem ht
  have h0 : chainI s t.fr [] t.til := Nat.le_of_lt hm.1
  unfold exTake
  split
  · exact h0
  · split
    · exact h0
    · split
      · rename_i hk
        have := pc_chain ht hk (decide (0 < x.n.b)) (decide (0 < x.n.p)) _ 0 (Nat.le_refl _) (Nat.zero_le _) x.fo x.ch
        exact this
      · split
        · rename_i hk0 hk1
          exact ⟨Nat.le_refl _, by show 1 ≤ t.til - t.fr; omega, inTok_of ht (x := ⟨t.r, t.fr, t.til - t.fr, _, _, _, _⟩) (Nat.le_refl _) hm.1 (by show t.fr + (t.til - t.fr) ≤ t.til; omega) (.inr ⟨hk0, hk1, rfl, by show t.fr + (t.til - t.fr) = t.til; omega⟩), by show t.fr + (t.til - t.fr) ≤ t.til; omega⟩
        · exact h0
/-- Tokens, one behind the other. -/
def tileT : Nat → List Tk → Nat → Prop
  | a, [], e => a ≤ e
  | a, t :: l, e => a ≤ t.fr ∧ tileT t.til l e
theorem toksAt_tileT (s : ByteArray) : ∀ (d i : Nat), s.size - i ≤ d → i ≤ s.size → tileT i (toksAt s i) s.size := by
  intro d
  induction d with
  | zero =>
    intro i hd hi
    rw [toksAt_end (by omega)]
    exact hi
  | succ d ih =>
    intro i hd hi0
    by_cases hi : i < s.size
    · cases hs : specA s i with
      | none =>
        have h1 := scanTo_ge (specB s) s.size (i + 1)
        have h2 := scanTo_le (specB s) (n := s.size) (i := i + 1) (by omega)
        rw [toksAt_text hi hs]
        exact ⟨Nat.le_refl _, ih (textE s i) (by unfold textE; omega) h2⟩
      | some sp =>
        have hb := specA_bd hs
        by_cases hr : sp.raw = true ∧ i + sp.size < rawE s sp.name (i + sp.size)
        · have h2 := scanTo_le (closesB s sp.name) (n := s.size) (i := i + sp.size) hb.2.1
          rw [toksAt_raw hi hs hr]
          exact ⟨Nat.le_refl _, Nat.le_refl _, ih _ (by have := hr.2; show s.size - rawE s sp.name (i + sp.size) ≤ d; omega) h2⟩
        · rw [toksAt_spec hi hs hr]
          exact ⟨Nat.le_refl _, ih _ (by show s.size - (i + sp.size) ≤ d; omega) hb.2.1⟩
    · rw [toksAt_end (by omega)]
      exact hi0
theorem exGo_chain (s : ByteArray) : ∀ (l : List Tk) (a : Nat) (x : Xs), (∀ t ∈ l, t ∈ toks s) → tileT a l s.size → chainI s a (exGo s x l).2 s.size
  | [], a, x, _, h => h
  | t :: l, a, x, hm, h => by
    have c1 := exTake_chain (hm t (List.mem_cons_self ..)) x
    have c2 := exGo_chain s l t.til (exTake x t (seg s t)).1 (fun u hu => hm u (List.mem_cons_of_mem _ hu)) h.2
    exact chainI_app s _ _ _ _ _ (chainI_le s _ _ _ _ h.1 c1) c2
/-- All items rise, within texts and references. -/
theorem exAll_chain (s : ByteArray) : chainI s 0 (exAll s) s.size := exGo_chain s _ 0 xs0 (fun _ h => h) (toksAt_tileT s _ 0 (Nat.le_refl _) (Nat.zero_le _))
/-- The bytes of numbers. -/
def runB : List Int → ByteArray
  | [] => ⟨#[]⟩
  | r :: l => scB r ++ runB l
theorem runB_snoc (r : Int) : ∀ l : List Int, runB (l ++ [r]) = runB l ++ scB r
  | [] => by show scB r ++ ⟨#[]⟩ = ⟨#[]⟩ ++ scB r; rw [append_empty, empty_append]
  | y :: l => by
    show scB y ++ runB (l ++ [r]) = scB y ++ runB l ++ scB r
    rw [runB_snoc r l, append_assoc3]
theorem runB_size : ∀ l : List Int, (runB l).size ≤ 4 * l.length
  | [] => Nat.le_refl _
  | x :: l => by
    have := runB_size l
    have := (scB_size x).1
    show (scB x ++ runB l).size ≤ 4 * (l.length + 1)
    rw [ByteArray.size_append]
    omega
theorem intsOf_append (x y : ByteArray) : intsOf (x ++ y) = intsOf x ++ intsOf y := by
  unfold intsOf
  rw [ByteArray.data_append, Array.toList_append, List.map_append]
theorem intsOf_runB : ∀ l : List Int, intsOf (runB l) = l.flatMap putI
  | [] => rfl
  | r :: l => by
    show intsOf (scB r ++ runB l) = _
    rw [intsOf_append, intsOf_scB, intsOf_runB l]
    rfl
theorem runB_byt {D : List Int} {c : Int} (h : ∀ r ∈ D, r ≠ c) (hc : c < 128) (hc0 : 0 < c) (i : Nat) : byt (runB D) i ≠ c := by
  rw [← intsOf_get, intsOf_runB]
  intro e
  by_cases hi : i < (D.flatMap putI).length
  · rw [List.getD_eq_getElem?_getD, List.getElem?_eq_getElem hi] at e
    have hm : c ∈ D.flatMap putI := by
      have := List.getElem_mem hi
      rw [show (D.flatMap putI)[i] = c from e] at this
      exact this
    obtain ⟨r, hr, hy⟩ := List.mem_flatMap.1 hm
    exact h r hr ((putI_mem r c hy).2 hc)
  · rw [List.getD_eq_getElem?_getD, List.getElem?_eq_none (by omega)] at e
    have e' : (0 : Int) = c := e
    omega
def plainIts : Nat → List Int → List It
  | _, [] => []
  | a, r :: l => ⟨r, a, (scB r).size, false, false, false, false⟩ :: plainIts (a + (scB r).size) l
theorem plainIts_len : ∀ (l : List Int) (a : Nat), (plainIts a l).length = l.length
  | [], _ => rfl
  | r :: l, a => by
    show (plainIts _ l).length + 1 = l.length + 1
    rw [plainIts_len l]
theorem plainIts_itB : ∀ (l : List Int) (a : Nat), itB (plainIts a l) = runB l
  | [], _ => rfl
  | r :: l, a => by
    show scB r ++ itB (plainIts _ l) = scB r ++ runB l
    rw [plainIts_itB l]
theorem plainIts_get : ∀ (l : List Int) (a i : Nat) (h : i < (plainIts a l).length) (h2 : i < l.length), (plainIts a l)[i] = ⟨l[i], a + (runB (l.take i)).size, (scB l[i]).size, false, false, false, false⟩
  | r :: l, a, 0, h, h2 => rfl
  | r :: l, a, i + 1, h, h2 => by
    show (plainIts (a + (scB r).size) l)[i]'_ = _
    rw [plainIts_get l _ i (by rw [plainIts_len]; simpa using h2) (by simpa using h2)]
    have : (runB ((r :: l).take (i + 1))).size = (scB r).size + (runB (l.take i)).size := by
      show (scB r ++ runB (l.take i)).size = _
      rw [ByteArray.size_append]
    rw [this, Nat.add_assoc]
    rfl
theorem pcs_run : ∀ (D : List Int) (pre : List Int), (∀ r ∈ D, rightR r = true) → pcIts 0 false false false false (S1.pcsFrom (pre ++ D.flatMap putI) pre.length) = plainIts pre.length D
  | [], pre, _ => by
    rw [S1.pcsFrom_end (by simp)]
    rfl
  | r :: D, pre, h => by
    have hl := (putI_len r).2
    have hfl : (r :: D).flatMap putI = putI r ++ D.flatMap putI := rfl
    have hd : (pre ++ (r :: D).flatMap putI).drop pre.length = putI r ++ D.flatMap putI := by rw [List.drop_left, hfl]
    have hrd := readF_put (h r (List.mem_cons_self ..)) (D.flatMap putI)
    rw [S1.pcsFrom_step (by rw [hfl, List.length_append, List.length_append]; omega), hd, hrd]
    have ih := pcs_run D (pre ++ putI r) (fun q hq => h q (List.mem_cons_of_mem _ hq))
    rw [List.append_assoc, ← hfl, List.length_append] at ih
    have hz : (scB r).size = (putI r).length := by unfold scB; rw [ofInts_size]
    show (⟨r, 0 + pre.length, (putI r).length, false, false, false, false⟩ : It) :: pcIts 0 false false false false _ = ⟨r, pre.length, (scB r).size, false, false, false, false⟩ :: plainIts (pre.length + (scB r).size) D
    rw [Nat.zero_add, hz, ← ih]
theorem ext_wholeX (s : ByteArray) : s.extract 0 s.size = s := by
  apply ext_byt
  · rw [ByteArray.size_extract]; omega
  · intro i hi
    rw [ByteArray.size_extract] at hi
    rw [byt_extract s 0 s.size i (by omega) (Nat.le_refl _), Nat.zero_add]
theorem toks_plain {s : ByteArray} (h0 : 0 < s.size) (h : ∀ i, byt s i ≠ 60 ∧ byt s i ≠ 38 ∧ byt s i ≠ 27) : toks s = [textTk 0 s.size] := by
  have hn : ∀ i, specA s i = none := fun i => by
    unfold specA
    rw [if_neg (h i).1, if_neg (h i).2.1, if_neg (fun e => (h i).2.2 (readE_escX e))]
  have he : ∀ f i, scanG (specB s) f i = i + f := by
    intro f
    induction f with
    | zero => intro i; rfl
    | succ f ih =>
      intro i
      unfold scanG
      rw [if_neg (by unfold specB; rw [hn]; decide), ih]
      omega
  have ht : textE s 0 = s.size := by
    unfold textE scanTo
    rw [he]
    omega
  unfold toks
  rw [toksAt_text h0 (hn 0), ht, toksAt_end (Nat.le_refl _)]
theorem exAll_plain (D : List Int) (h : ∀ r ∈ D, rightR r = true ∧ r ≠ 60 ∧ r ≠ 38 ∧ r ≠ 27) : exAll (runB D) = plainIts 0 D := by
  cases D with
  | nil => rfl
  | cons r D =>
    have h0 : 0 < (runB (r :: D)).size := by
      have := (scB_size r).2
      show 0 < (scB r ++ runB D).size
      rw [ByteArray.size_append]
      omega
    have ht := toks_plain h0 (fun i => ⟨runB_byt (fun q hq => (h q hq).2.1) (by decide) (by decide) i, runB_byt (fun q hq => (h q hq).2.2.1) (by decide) (by decide) i, runB_byt (fun q hq => (h q hq).2.2.2) (by decide) (by decide) i⟩)
    have hp := pcs_run (r :: D) [] (fun q hq => (h q hq).1)
    unfold exAll
    rw [ht]
    have hseg : seg (runB (r :: D)) (textTk 0 (runB (r :: D)).size) = (r :: D).flatMap putI := by
      show intsOf ((runB (r :: D)).extract 0 (runB (r :: D)).size) = _
      rw [ext_wholeX, intsOf_runB]
    show (exTake xs0 (textTk 0 (runB (r :: D)).size) (seg (runB (r :: D)) (textTk 0 (runB (r :: D)).size))).2 ++ [] = _
    rw [hseg, List.append_nil]
    exact hp
end Go.Proofs.YtlfbgaknljdanaaGreatDoor
