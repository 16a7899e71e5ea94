/- Chapter 16: references that could be, and that are written: the plain law. -/
import Derived.Test.YtddbbgjpfdcjfaaDoorEnP
namespace Go.Proofs.YtddbbgjpfdcjfaaDoor
set_option linter.unusedVariables false

theorem preB_iff (x q : ByteArray) : preB x q = true ↔ q.size ≤ x.size ∧ ∀ i, i < q.size → byt x i = byt q i := by
  unfold preB
  rw [decide_eq_true_iff]
theorem fm_eq {s : ByteArray} {f : Fm} (h : fmOf s = f) : runE s = runTo f.p s f.most f.skip := by subst h; rfl
/-- A name's beginning: the bytes behind the sign. -/
theorem let_run {s : ByteArray} (h0 : 0 < s.size) {x : ByteArray × Int} (hx : x ∈ names) (hp : preB x.1 (s.extract 1 s.size) = true) : fmOf s = fmLet ∧ runE s = s.size := by
  obtain ⟨k1, k2, k3, _, _⟩ := names_fact hx
  obtain ⟨q1, q2⟩ := (preB_iff _ _).1 hp
  have hs : (s.extract 1 s.size).size = s.size - 1 := by rw [ByteArray.size_extract]; omega
  rw [hs] at q1 q2
  have hl : ∀ j, 1 ≤ j → j < s.size → letP (byt s j) = true := fun j h1 h2 => by
    have h := q2 (j - 1) (by omega)
    rw [byt_extract s 1 _ _ (by omega) (Nat.le_refl _), show 1 + (j - 1) = j by omega] at h
    rw [← h]
    exact k3 (j - 1) (by omega)
  have hf : fmOf s = fmLet := fm_let fun h => let_35 (hl 1 (Nat.le_refl _) (by omega)) h.2
  refine ⟨hf, ?_⟩
  rw [fm_eq hf]
  exact runTo_is _ _ (by show 1 ≤ _; omega) (by show _ ≤ 1 + 6; omega) (fun j h1 h2 => ⟨h2, hl j h1 h2⟩) (.inl (Nat.le_refl _))
theorem amp_pre (x s : ByteArray) (h0 : 0 < s.size) (h38 : byt s 0 = 38) : preB (ampB ++ x) s = preB x (s.extract 1 s.size) := by
  have hs : (s.extract 1 s.size).size = s.size - 1 := by rw [ByteArray.size_extract]; omega
  rw [Bool.eq_iff_iff, preB_iff, preB_iff, hs, ByteArray.size_append, show ampB.size = 1 from rfl]
  constructor
  · rintro ⟨h1, h2⟩
    refine ⟨by omega, fun i hi => ?_⟩
    have := h2 (1 + i) (by omega)
    rw [show 1 + i = ampB.size + i from rfl, byt_right] at this
    rw [this, byt_extract s 1 _ i (by omega) (Nat.le_refl _)]
    rfl
  · rintro ⟨h1, h2⟩
    refine ⟨by omega, fun i hi => ?_⟩
    by_cases hi0 : i = 0
    · subst hi0
      rw [byt_left _ _ 0 (by decide), h38]
      rfl
    · obtain ⟨j, rfl⟩ : ∃ j, i = 1 + j := ⟨i - 1, by omega⟩
      rw [show 1 + j = ampB.size + j from rfl, byt_right, h2 j (by omega), byt_extract s 1 _ j (by omega) (Nat.le_refl _)]
      rfl
theorem run_nums {s : ByteArray} {f : Fm} {base : Nat} (hf : fmOf s = f) (hp : f.p = pOf base) (hk : f.skip < s.size) (hs : f.skip ≤ s.size) : decide (s.size ≤ runE s) = decide (0 ≤ refN base f.most (s.extract f.skip s.size)) := by
  have hes : (s.extract f.skip s.size).size = s.size - f.skip := by rw [ByteArray.size_extract]; omega
  rw [decide_eq_decide, fm_eq hf]
  constructor
  · intro h
    have hge := runTo_ge f.p s f.most f.skip
    rw [refN_yes (by omega) (by omega) fun i hi => ?_]
    · exact scal_nonneg _
    · rw [hes] at hi
      rw [byt_extract s _ _ i (by omega) (Nat.le_refl _), ← hp]
      exact (runTo_all f.p s f.most f.skip (f.skip + i) (by omega) (by omega)).2
  · intro h
    obtain ⟨h1, h2, h3, _⟩ := refN_ok h
    rw [hes] at h2 h3
    rw [runTo_is (e := s.size) _ _ hs (by omega) (fun j k1 k2 => ⟨k2, ?_⟩) (.inl (Nat.le_refl _))]
    · exact Nat.le_refl _
    · have := h3 (j - f.skip) (by omega)
      rw [byt_extract s _ _ _ (by omega) (Nat.le_refl _), show f.skip + (j - f.skip) = j by omega] at this
      rw [hp]
      exact this
theorem fp_hex : fmHex.p = pOf 16 := rfl
theorem fp_dec : fmDec.p = pOf 10 := rfl
theorem run_hex {s : ByteArray} (hf : fmOf s = fmHex) (hk : 3 < s.size) : decide (s.size ≤ runE s) = decide (0 ≤ refN 16 6 (s.extract 3 s.size)) := run_nums (f := fmHex) (base := 16) hf fp_hex hk (Nat.le_of_lt hk)
theorem run_dec {s : ByteArray} (hf : fmOf s = fmDec) (hk : 2 < s.size) : decide (s.size ≤ runE s) = decide (0 ≤ refN 10 7 (s.extract 2 s.size)) := run_nums (f := fmDec) (base := 10) hf fp_dec hk (Nat.le_of_lt hk)
theorem run_at {s : ByteArray} {f : Fm} (hf : fmOf s = f) (hs : s.size = f.skip) : runE s = f.skip := by
  rw [fm_eq hf]
  exact runTo_is _ _ (Nat.le_refl _) (by omega) (fun j h1 h2 => by omega) (.inl (by omega))
theorem run_hex0 {s : ByteArray} (hf : fmOf s = fmHex) (hs : s.size = 3) : runE s = 3 := run_at hf hs
theorem run_dec0 {s : ByteArray} (hf : fmOf s = fmDec) (hs : s.size = 2) : runE s = 2 := run_at hf hs
theorem run_let0 {s : ByteArray} (hf : fmOf s = fmLet) (hs : s.size = 1) : runE s = 1 := run_at hf hs
theorem any_none {s : ByteArray} (h2 : 2 ≤ s.size) (h35 : byt s 1 = 35) : (names.any fun x => preB x.1 (s.extract 1 s.size)) = false := by
  rw [Bool.eq_false_iff]
  intro h
  obtain ⟨x, hx, hp⟩ := List.any_eq_true.1 h
  obtain ⟨hf, _⟩ := let_run (by omega) hx hp
  rcases fm_cases s with ⟨k, _⟩ | ⟨k, _⟩ | ⟨_, k⟩
  · rw [k] at hf; cases hf
  · rw [k] at hf; cases hf
  · exact k ⟨h2, h35⟩
theorem open_ref (s : ByteArray) : entO s = refO s := by
  unfold entO refO
  by_cases h0 : s.size = 0
  · rw [if_pos h0, decide_eq_false (by omega), Bool.false_and]
  rw [if_neg h0]
  by_cases h38 : byt s 0 ≠ 38
  · rw [if_pos h38, decide_eq_false (fun h => h38 h.2.1), Bool.false_and]
  rw [if_neg h38]
  have h38 : byt s 0 = 38 := Classical.byContradiction h38
  have hany : (names.any fun x => preB (ampB ++ x.1) s) = names.any fun x => preB x.1 (s.extract 1 s.size) := by
    congr 1
    funext x
    exact amp_pre x.1 s (by omega) h38
  have hd : decide (0 < s.size ∧ byt s 0 = 38 ∧ s.size ≤ runE s) = decide (s.size ≤ runE s) := decide_eq_decide.2 ⟨fun h => h.2.2, fun h => ⟨by omega, h38, h⟩⟩
  rw [hany, hd]
  rcases fm_cases s with ⟨hf, k1, k2, k3⟩ | ⟨hf, k1, k2, k3⟩ | ⟨hf, k1⟩
  · rw [hf, show decide (fmHex.base ≠ 0) = true from rfl, Bool.true_or, Bool.and_true]
    by_cases hs : s.size = 3
    · rw [if_pos (.inr ⟨k2, .inr ⟨hs, k3⟩⟩), run_hex0 hf hs]
      exact decide_eq_true (by omega)
    · rw [if_neg (by omega), any_none (by omega) k2, Bool.false_or, if_pos ⟨k1, k2, k3⟩]
      exact run_hex hf (by omega)
  · rw [hf, show decide (fmDec.base ≠ 0) = true from rfl, Bool.true_or, Bool.and_true]
    by_cases hs : s.size = 2
    · rw [if_pos (.inr ⟨k2, .inl hs⟩), run_dec0 hf hs]
      exact decide_eq_true (by omega)
    · rw [if_neg (fun h => by
        rcases h with h | ⟨_, h | h⟩
        · omega
        · exact hs h
        · exact k3 ⟨by omega, h.2⟩), any_none (by omega) k2, Bool.false_or, if_neg (fun h => k3 ⟨h.1, h.2.2⟩), decide_eq_true k2, Bool.true_and]
      exact run_dec hf (by omega)
  · rw [hf, show decide (fmLet.base ≠ 0) = false from rfl, Bool.false_or]
    by_cases hs : s.size = 1
    · rw [if_pos (.inl hs), run_let0 hf hs, decide_eq_true (by omega), Bool.true_and]
      show (names.any fun x => preB x.1 (s.extract 1 s.size)) = true
      rw [List.any_eq_true]
      refine ⟨_, List.mem_cons_self .., (preB_iff _ _).2 ⟨?_, fun i hi => ?_⟩⟩
      · rw [ByteArray.size_extract]; show _ ≤ 3; omega
      · rw [ByteArray.size_extract] at hi; omega
    · have h35 : byt s 1 ≠ 35 := fun h => k1 ⟨by omega, h⟩
      rw [if_neg (fun h => h.elim hs fun h => h35 h.1), if_neg (fun h => h35 h.2.1), decide_eq_false h35, Bool.false_and, Bool.or_false]
      show (decide (s.size ≤ runE s) && names.any fun x => preB x.1 (s.extract 1 s.size)) = names.any fun x => preB x.1 (s.extract 1 s.size)
      cases ha : names.any fun x => preB x.1 (s.extract 1 s.size)
      · rw [Bool.and_false]
      · obtain ⟨x, hx, hp⟩ := List.any_eq_true.1 ha
        rw [(let_run (by omega) hx hp).2, decide_eq_true (Nat.le_refl _), Bool.true_and]
theorem ext_all (s : ByteArray) : s.extract 0 s.size = s := by
  apply ext_byt
  · rw [ByteArray.size_extract]; omega
  · intro i hi
    rw [ByteArray.size_extract] at hi
    rw [byt_ext0 _ (by omega) (Nat.le_refl _)]
theorem entR_zero {s : ByteArray} (h0 : 0 < s.size) (h38 : byt s 0 = 38) : entR s 0 = entH s := by
  unfold entR
  rw [if_pos ⟨Int.le_refl _, by omega, h38⟩]
  show entH (s.extract 0 s.size) = _
  rw [ext_all]
theorem entH_run {s : ByteArray} {q : Int × Nat} (h : entH s = some q) : runE s < s.size := by
  unfold entH at h
  split at h
  · cases h
  · rename_i hc
    rcases Nat.lt_or_ge (runE s) s.size with h | h
    · exact h
    · exact absurd (.inr (.inl h)) hc
theorem entO_run {s : ByteArray} (h : runE s < s.size) : entO s = false := by
  unfold entO
  rw [decide_eq_false (fun h2 => by omega), Bool.false_and]
theorem read_open {s : ByteArray} {q : Int × Nat} (h : entR s 0 = some q) : entO s = false := by
  have h2 := h
  unfold entR at h
  split at h
  · rename_i hc
    have h3 : 0 < s.size := by have := hc.2.1; omega
    rw [entR_zero h3 hc.2.2] at h2
    exact entO_run (entH_run h2)
  · cases h

/-- Digits of sixteen. -/
def dg (k : Nat) : UInt8 := UInt8.ofNat (if k < 10 then 48 + k else 87 + k)
def hexD (u : Nat) : List UInt8 := if h : u < 16 then [dg u] else hexD (u / 16) ++ [dg (u % 16)]
decreasing_by omega
def hexB (u : Nat) : ByteArray := ⟨(hexD u).toArray⟩
def nameOf (r : Int) : Option ByteArray := (names.find? fun x => decide (x.2 = r)).map (·.1)
def semiC : ByteArray := ⟨#[59]⟩
def hexH : ByteArray := ⟨#[38, 35, 120]⟩
/-- A scalar's reference. -/
def writeR (r : Int) : ByteArray :=
  if r = 0 ∨ ¬ rightV r then ⟨#[]⟩ else match nameOf r with
  | some n => ampB ++ n ++ semiC
  | none => hexH ++ hexB r.toNat ++ semiC
theorem dg_val : ∀ k : Fin 16, (dg k.val).toNat = if k.val < 10 then 48 + k.val else 87 + k.val := by decide
theorem dg_hex : ∀ k : Fin 16, hexP ((dg k.val).toNat : Int) = true ∧ digV ((dg k.val).toNat : Int) = k.val := by decide
theorem hexD_mem : ∀ (u : Nat), ∀ b ∈ hexD u, hexP (b.toNat : Int) = true := by
  intro u
  induction u using Nat.strongRecOn with
  | _ u ih =>
    intro b hb
    rw [hexD] at hb
    split at hb
    · rename_i h
      rw [List.mem_singleton.1 hb]
      exact (dg_hex ⟨u, h⟩).1
    · rcases List.mem_append.1 hb with h | h
      · exact ih (u / 16) (by omega) b h
      · rw [List.mem_singleton.1 h]
        exact (dg_hex ⟨u % 16, Nat.mod_lt _ (by decide)⟩).1
theorem hexD_val : ∀ (u : Nat), (hexD u).foldl (fun (n : Int) b => 16 * n + digV (b.toNat : Int)) 0 = u := by
  intro u
  induction u using Nat.strongRecOn with
  | _ u ih =>
    rw [hexD]
    split
    · rename_i h
      show 16 * 0 + digV _ = _
      rw [(dg_hex ⟨u, h⟩).2]
      show 16 * 0 + (u : Int) = _
      omega
    · rw [List.foldl_append, ih (u / 16) (by omega)]
      show 16 * _ + digV _ = _
      rw [(dg_hex ⟨u % 16, Nat.mod_lt _ (by decide)⟩).2]
      show 16 * ((u / 16 : Nat) : Int) + ((u % 16 : Nat) : Int) = _
      omega
theorem hexD_len : ∀ (k u : Nat), 1 ≤ k → u < 16 ^ k → (hexD u).length ≤ k := by
  intro k
  induction k with
  | zero => intro u h; omega
  | succ k ih =>
    intro u _ hu
    rw [hexD]
    split
    · simp
    · rename_i h
      rw [List.length_append, List.length_singleton]
      have hk : 1 ≤ k := by
        rcases Nat.eq_zero_or_pos k with h0 | h0
        · subst h0; exact absurd hu h
        · exact h0
      have := ih (u / 16) hk (by rw [Nat.pow_succ] at hu; omega)
      omega
theorem hexD_pos (u : Nat) : 1 ≤ (hexD u).length := by
  rw [hexD]
  split <;> simp
theorem hexB_size (u : Nat) : (hexB u).size = (hexD u).length := by simp [hexB, ByteArray.size]
theorem hexB_byt (u i : Nat) (h : i < (hexB u).size) : hexP (byt (hexB u) i) = true := by
  have hl : i < (hexD u).length := by rw [← hexB_size]; exact h
  have : byt (hexB u) i = (((hexD u)[i].toNat : Nat) : Int) := by
    unfold byt hexB
    simp [Array.getD_eq_getD_getElem?, hl]
  rw [this]
  exact hexD_mem u _ (List.getElem_mem hl)
theorem hexB_num (u : Nat) : numV 16 (hexB u) = u := by
  unfold numV intsOf hexB
  rw [List.foldl_map]
  exact hexD_val u
theorem findN_all : (names.all fun x => decide (findN x.1 = some x.2)) = true := by kernel_rfl
theorem nameOf_some {r : Int} {n : ByteArray} (h : nameOf r = some n) : ∃ x ∈ names, x.1 = n ∧ x.2 = r ∧ findN n = some r := by
  unfold nameOf at h
  obtain ⟨x, hx, rfl⟩ := Option.map_eq_some_iff.1 h
  have hm := List.mem_of_find?_eq_some hx
  have hr : x.2 = r := (by simpa using List.find?_some hx)
  have := of_decide_eq_true (List.all_eq_true.1 findN_all x hm)
  exact ⟨x, hm, rfl, hr, by rw [this, hr]⟩
theorem right_small {r : Int} (h : rightV r) : r.toNat < 16 ^ 6 ∧ ((r.toNat : Nat) : Int) = r := by
  obtain ⟨h1, h2, _⟩ := h
  constructor
  · show r.toNat < 16777216; omega
  · omega
/-- What is written: its parts: a sign, a middle, and the end. -/
theorem write_parts {r : Int} (h0 : r ≠ 0) (hr : rightV r) : ∃ (f : Fm) (d : ByteArray), (f = fmLet ∧ writeR r = ampB ++ d ++ semiC ∧ findN d = some r ∨ f = fmHex ∧ writeR r = hexH ++ d ++ semiC ∧ scal (numV 16 d) = r) ∧ 1 ≤ d.size ∧ d.size ≤ f.most ∧ (∀ i, i < d.size → f.p (byt d i) = true) := by
  have hc : ¬ (r = 0 ∨ ¬ rightV r) := fun h => h.elim h0 fun h => h hr
  cases hn : nameOf r with
  | some n =>
    obtain ⟨x, hx, rfl, hx2, hf⟩ := nameOf_some hn
    obtain ⟨k1, k2, k3, _, _⟩ := names_fact hx
    refine ⟨fmLet, x.1, .inl ⟨rfl, ?_, hf⟩, by omega, k2, k3⟩
    unfold writeR
    rw [if_neg hc, hn]
  | none =>
    obtain ⟨hs, he⟩ := right_small hr
    refine ⟨fmHex, hexB r.toNat, .inr ⟨rfl, ?_, ?_⟩, ?_, ?_, hexB_byt _⟩
    · unfold writeR
      rw [if_neg hc, hn]
    · rw [hexB_num, he]
      unfold scal
      rw [if_neg hc]
    · rw [hexB_size]; exact hexD_pos _
    · rw [hexB_size]; exact hexD_len 6 _ (by decide) hs
/-- A beginning of what is written: how it goes on. -/
theorem parts_fm {f : Fm} {hd d : ByteArray} (hf : f = fmLet ∧ hd = ampB ∨ f = fmHex ∧ hd = hexH) (h1 : 1 ≤ d.size) (hp : ∀ i, i < d.size → f.p (byt d i) = true) (m : ByteArray) : f.skip = hd.size ∧ byt ((hd ++ d ++ semiC) ++ m) 0 = 38 ∧ fmOf ((hd ++ d ++ semiC) ++ m) = f ∧ runE ((hd ++ d ++ semiC) ++ m) = hd.size + d.size ∨ f.most < d.size := by
  by_cases hm : d.size ≤ f.most
  case neg => exact .inr (by omega)
  left
  have hsz : ((hd ++ d ++ semiC) ++ m).size = hd.size + d.size + 1 + m.size := by rw [ByteArray.size_append, ByteArray.size_append, ByteArray.size_append]; rfl
  have bh : ∀ i, i < hd.size → byt ((hd ++ d ++ semiC) ++ m) i = byt hd i := fun i hi => by
    rw [byt_left _ _ i (by rw [ByteArray.size_append, ByteArray.size_append]; omega), byt_left _ _ i (by rw [ByteArray.size_append]; omega), byt_left _ _ i hi]
  have bd : ∀ i, i < d.size → byt ((hd ++ d ++ semiC) ++ m) (hd.size + i) = byt d i := fun i hi => by
    rw [byt_left _ _ _ (by rw [ByteArray.size_append, ByteArray.size_append]; omega), byt_left _ _ _ (by rw [ByteArray.size_append]; omega), byt_right]
  have be : byt ((hd ++ d ++ semiC) ++ m) (hd.size + d.size) = 59 := by
    rw [byt_left _ _ _ (by rw [ByteArray.size_append, ByteArray.size_append]; show _ < _ + 1; omega)]
    have := byt_right (hd ++ d) semiC 0
    rw [ByteArray.size_append, Nat.add_zero] at this
    rw [this]
    rfl
  generalize (hd ++ d ++ semiC) ++ m = s at *
  have hrun : fmOf s = f → f.skip = hd.size → runE s = hd.size + d.size := fun h h2 => by
    rw [fm_eq h]
    refine runTo_is _ _ (by omega) (by omega) (fun j k1 k2 => ⟨by omega, ?_⟩) (.inr (by rw [be]; exact p_59 _))
    have := bd (j - hd.size) (by omega)
    rw [show hd.size + (j - hd.size) = j by omega] at this
    rw [this]
    exact hp _ (by omega)
  rcases hf with ⟨rfl, rfl⟩ | ⟨rfl, rfl⟩
  · have h1b : byt s 1 = byt d 0 := bd 0 (by omega)
    have hfm : fmOf s = fmLet := fm_let fun h => by rw [h1b] at h; exact let_35 (hp 0 (by omega)) h.2
    exact ⟨rfl, bh 0 (by decide), hfm, hrun hfm rfl⟩
  · have hfm : fmOf s = fmHex := fm_hex ⟨by have : hexH.size = 3 := rfl; omega, bh 1 (by decide), by rw [bh 2 (by decide)]; decide⟩
    exact ⟨rfl, bh 0 (by decide), hfm, hrun hfm rfl⟩
theorem write_read {r : Int} (h0 : r ≠ 0) (hr : rightV r) (m : ByteArray) : entR (writeR r ++ m) 0 = some (r, (writeR r).size) ∧ (writeR r).size ≤ 10 ∧ 3 ≤ (writeR r).size := by
  obtain ⟨f, d, hc, h1, h2, h3⟩ := write_parts h0 hr
  rcases hc with ⟨rfl, hw, hv⟩ | ⟨rfl, hw, hv⟩
  · have hk := (parts_fm (.inl ⟨rfl, rfl⟩) h1 h3 m).resolve_right (by omega)
    obtain ⟨k0, k1, k2, k3⟩ := hk
    have hs : (writeR r).size = 1 + d.size + 1 := by rw [hw, ByteArray.size_append, ByteArray.size_append]; rfl
    have hs2 : (writeR r ++ m).size = 1 + d.size + 1 + m.size := by rw [ByteArray.size_append, hs]
    have h2' : d.size ≤ 6 := h2
    refine ⟨?_, by omega, by omega⟩
    rw [hw] at hs hs2 ⊢
    have hpc : ((ampB ++ d ++ semiC) ++ m).extract 1 (1 + d.size) = d := by
      have hp : Pre (ampB ++ d) ((ampB ++ d ++ semiC) ++ m) := (Pre.left (ampB ++ d) semiC).trans (Pre.left _ m)
      exact hp.piece
    have hbe : byt ((ampB ++ d ++ semiC) ++ m) (1 + d.size) = 59 := by
      rw [byt_left _ _ _ (by omega)]
      have := byt_right (ampB ++ d) semiC 0
      rw [ByteArray.size_append, Nat.add_zero] at this
      rw [show 1 + d.size = ampB.size + d.size from rfl, this]
      rfl
    rw [entR_zero (by omega) k1]
    unfold entH
    rw [k3, k2, show ampB.size = 1 from rfl, hbe, if_neg (by show ¬ (_ = 1 ∨ _ ∨ _); omega), if_pos (show fmLet.base = 0 from rfl)]
    show (findN ((((ampB ++ d) ++ semiC) ++ m).extract 1 (1 + d.size))).map _ = _
    rw [hpc, hv, hs]
    rfl
  · have hk := (parts_fm (.inr ⟨rfl, rfl⟩) h1 h3 m).resolve_right (by omega)
    obtain ⟨k0, k1, k2, k3⟩ := hk
    have hs : (writeR r).size = 3 + d.size + 1 := by rw [hw, ByteArray.size_append, ByteArray.size_append]; rfl
    have hs2 : (writeR r ++ m).size = 3 + d.size + 1 + m.size := by rw [ByteArray.size_append, hs]
    have h2' : d.size ≤ 6 := h2
    refine ⟨?_, by omega, by omega⟩
    rw [hw] at hs hs2 ⊢
    have hpc : ((hexH ++ d ++ semiC) ++ m).extract 3 (3 + d.size) = d := by
      have hp : Pre (hexH ++ d) ((hexH ++ d ++ semiC) ++ m) := (Pre.left (hexH ++ d) semiC).trans (Pre.left _ m)
      exact hp.piece
    have hbe : byt ((hexH ++ d ++ semiC) ++ m) (3 + d.size) = 59 := by
      rw [byt_left _ _ _ (by omega)]
      have := byt_right (hexH ++ d) semiC 0
      rw [ByteArray.size_append, Nat.add_zero] at this
      rw [show 3 + d.size = hexH.size + d.size from rfl, this]
      rfl
    rw [entR_zero (by omega) k1]
    unfold entH
    rw [k3, k2, show hexH.size = 3 from rfl, hbe, if_neg (by show ¬ (_ = 3 ∨ _ ∨ _); omega), if_neg (by decide)]
    show some (scal (numV 16 ((((hexH ++ d) ++ semiC) ++ m).extract 3 (3 + d.size))), _) = _
    rw [hpc, hv, hs]
theorem write_none {r : Int} : writeR r = ⟨#[]⟩ ↔ r = 0 ∨ ¬ rightV r := by
  constructor
  · intro h
    apply Classical.byContradiction
    intro hc
    have := (write_read (r := r) (fun h => hc (.inl h)) (Classical.byContradiction fun h => hc (.inr h)) ⟨#[]⟩).2.2
    rw [h] at this
    exact absurd this (by decide)
  · intro h
    unfold writeR
    rw [if_pos h]
/-- A reference, cut off. -/
theorem write_cut {r : Int} (h0 : r ≠ 0) (hr : rightV r) {n : Nat} (hn : n < (writeR r).size) : entR ((writeR r).extract 0 n) 0 = none ∧ entO ((writeR r).extract 0 n) = decide (0 < n) := by
  have hsn : ((writeR r).extract 0 n).size = n := by rw [ByteArray.size_extract]; omega
  by_cases hn0 : n = 0
  · subst hn0
    have : (writeR r).extract 0 0 = ⟨#[]⟩ := ext_self _ 0
    rw [this]
    exact ⟨rfl, rfl⟩
  have hb := fun i (hi : i < n) => byt_ext0 (writeR r) hi (show n ≤ _ by omega)
  obtain ⟨f, d, hc, h1, h2, h3⟩ := write_parts h0 hr
  have key : byt ((writeR r).extract 0 n) 0 = 38 → n ≤ runE ((writeR r).extract 0 n) → ((fmOf ((writeR r).extract 0 n)).base ≠ 0 ∨ ∃ x ∈ names, preB x.1 (((writeR r).extract 0 n).extract (fmOf ((writeR r).extract 0 n)).skip n) = true) → entR ((writeR r).extract 0 n) 0 = none ∧ entO ((writeR r).extract 0 n) = decide (0 < n) := by
    intro k1 k2 k3
    constructor
    · rw [entR_zero (by omega) k1]
      unfold entH
      rw [if_pos (.inr (.inl (by omega)))]
    · unfold entO
      rw [hsn, decide_eq_true ⟨by omega, k1, k2⟩, Bool.true_and, decide_eq_true (show 0 < n by omega), Bool.or_eq_true]
      rcases k3 with k3 | ⟨x, hx, hp⟩
      · exact .inl (decide_eq_true k3)
      · exact .inr (List.any_eq_true.2 ⟨x, hx, hp⟩)
  rcases hc with ⟨rfl, hw, hv⟩ | ⟨rfl, hw, hv⟩
  · have hs : (writeR r).size = 1 + d.size + 1 := by rw [hw, ByteArray.size_append, ByteArray.size_append]; rfl
    have h2' : d.size ≤ 6 := h2
    have b0 : byt (writeR r) 0 = 38 := by rw [hw, append_assoc3, byt_left _ _ 0 (by decide)]; rfl
    have bd : ∀ i, i < d.size → byt (writeR r) (1 + i) = byt d i := fun i hi => by
      rw [hw, byt_left _ _ _ (by rw [ByteArray.size_append]; show _ < 1 + _; omega), show 1 + i = ampB.size + i from rfl, byt_right]
    obtain ⟨x, hx, hxe, hxr⟩ := findN_some hv
    have hpre : preB x.1 (((writeR r).extract 0 n).extract 1 ((writeR r).extract 0 n).size) = true := by
      rw [preB_iff, ByteArray.size_extract, hsn, hxe]
      refine ⟨by omega, fun i hi => ?_⟩
      rw [byt_extract _ 1 n i (by omega) (by omega), hb _ (by omega), bd i (by omega)]
    obtain ⟨hf, hr⟩ := let_run (by omega) hx hpre
    refine key (by rw [hb 0 (by omega)]; exact b0) (by omega) (.inr ⟨x, hx, ?_⟩)
    rw [hf]
    rw [hsn] at hpre
    exact hpre
  · have hs : (writeR r).size = 3 + d.size + 1 := by rw [hw, ByteArray.size_append, ByteArray.size_append]; rfl
    have h2' : d.size ≤ 6 := h2
    have bh : ∀ i, i < 3 → byt (writeR r) i = byt hexH i := fun i hi => by
      rw [hw, append_assoc3, byt_left _ _ i (by show i < 3; exact hi)]
    have bd : ∀ i, i < d.size → byt (writeR r) (3 + i) = byt d i := fun i hi => by
      rw [hw, byt_left _ _ _ (by rw [ByteArray.size_append]; show _ < 3 + _; omega), show 3 + i = hexH.size + i from rfl, byt_right]
    have b0 : byt ((writeR r).extract 0 n) 0 = 38 := by rw [hb 0 (by omega), bh 0 (by decide)]; rfl
    by_cases hn1 : n = 1
    · subst hn1
      have hf : fmOf ((writeR r).extract 0 1) = fmLet := fm_let fun h => by omega
      have hr : runE ((writeR r).extract 0 1) = 1 := by
        rw [fm_eq hf]
        exact runTo_is _ _ (Nat.le_refl _) (by decide) (fun j k1 k2 => absurd k2 (by have : 1 ≤ j := k1; omega)) (.inl (by omega))
      refine key b0 (by omega) (.inr ⟨_, List.mem_cons_self .., ?_⟩)
      rw [hf, preB_iff, ByteArray.size_extract, hsn]
      exact ⟨by show 1 - 1 ≤ 3; omega, fun i hi => absurd hi (by show ¬ i < 1 - 1; omega)⟩
    · have b1 : byt ((writeR r).extract 0 n) 1 = 35 := by rw [hb 1 (by omega), bh 1 (by decide)]; rfl
      by_cases hn2 : n = 2
      · subst hn2
        have hf : fmOf ((writeR r).extract 0 2) = fmDec := fm_dec ⟨by omega, b1⟩ fun h => by omega
        have hr : runE ((writeR r).extract 0 2) = 2 := by
          rw [fm_eq hf]
          exact runTo_is _ _ (Nat.le_refl _) (by decide) (fun j k1 k2 => absurd k2 (by have : 2 ≤ j := k1; omega)) (.inl (by omega))
        exact key b0 (by omega) (.inl (by rw [hf]; decide))
      · have b2 : byt ((writeR r).extract 0 n) 2 = 120 := by rw [hb 2 (by omega), bh 2 (by decide)]; rfl
        have hf : fmOf ((writeR r).extract 0 n) = fmHex := fm_hex ⟨by omega, b1, by rw [b2]; decide⟩
        have hr : runE ((writeR r).extract 0 n) = n := by
          rw [fm_eq hf]
          refine runTo_is _ _ (by show 3 ≤ _; omega) (by show _ ≤ 3 + 6; omega) (fun j k1 k2 => ⟨by omega, ?_⟩) (.inl (by omega))
          have k1' : 3 ≤ j := k1
          have := bd (j - 3) (by omega)
          rw [show 3 + (j - 3) = j by omega] at this
          rw [hb j k2, this]
          exact h3 _ (by omega)
        exact key b0 (by omega) (.inl (by rw [hf]; decide))
end Go.Proofs.YtddbbgjpfdcjfaaDoor
