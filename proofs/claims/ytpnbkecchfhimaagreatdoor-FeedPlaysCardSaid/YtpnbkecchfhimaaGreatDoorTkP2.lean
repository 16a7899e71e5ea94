/- Chapter 19: the document's tokens are the program's; how tokens lie; tokens from a place on: plain laws. -/
import Derived.Test.YtpnbkecchfhimaaGreatDoorTkP
namespace Go.Proofs.YtpnbkecchfhimaaGreatDoor
set_option linter.unusedVariables false
set_option maxRecDepth 100000

/-- One byte more of text. -/
def addT (l : List Tk) (i : Nat) : List Tk := match l.getLast? with
  | some z => if z.kind = 0 then l.dropLast ++ [textTk z.fr (i + 1)] else l ++ [textTk i (i + 1)]
  | none => l ++ [textTk i (i + 1)]
theorem addT_on (l : List Tk) (fr e i : Nat) : addT (l ++ [textTk fr e]) i = l ++ [textTk fr (i + 1)] := by
  unfold addT
  rw [List.getLast?_concat]
  show (if (0 : Int) = 0 then (l ++ [textTk fr e]).dropLast ++ [textTk fr (i + 1)] else _) = _
  rw [if_pos rfl, List.dropLast_concat]
/-- No text stands last. -/
def NoTxt (l : List Tk) : Prop := ∀ z, l.getLast? = some z → z.kind ≠ 0
theorem addT_new {l : List Tk} (h : NoTxt l) (i : Nat) : addT l i = l ++ [textTk i (i + 1)] := by
  unfold addT
  cases hl : l.getLast? with
  | none => rfl
  | some z => simp only; rw [if_neg (h z hl)]
theorem NoTxt.snoc (l : List Tk) {z : Tk} (h : z.kind ≠ 0) : NoTxt (l ++ [z]) := fun y hy => by
  rw [List.getLast?_concat] at hy
  injection hy with hy
  subst hy
  exact h
def refF : Nat → ByteArray → Nat → ByteArray → List Tk → List Tk
  | 0, _, _, _, l => l
  | f + 1, s, i, nm, l =>
    if i < s.size then
      (if nm.size ≠ 0 ∧ closesB s nm i = false then refF f s (rawE s nm i) noB (l ++ [rawTk i (rawE s nm i)])
      else match specA s i with
        | none => refF f s (i + 1) noB (addT l i)
        | some sp => refF f s (i + sp.size) (if sp.raw = true then sp.name else noB) (l ++ [spTk i sp]))
    else l
theorem refF_end {s : ByteArray} {i : Nat} (h : s.size ≤ i) (nm : ByteArray) (l : List Tk) : ∀ f, refF f s i nm l = l
  | 0 => rfl
  | f + 1 => by unfold refF; rw [if_neg (by omega)]
theorem noB_size : noB.size = 0 := rfl
theorem refF_none {s : ByteArray} {i : Nat} (h : i < s.size) (hs : specA s i = none) (l : List Tk) (f : Nat) : refF (f + 1) s i noB l = refF f s (i + 1) noB (addT l i) := by
  rw [refF, if_pos h, if_neg (fun h => h.1 noB_size), hs]
theorem refF_some {s : ByteArray} {i : Nat} {sp : Sp} (h : i < s.size) (hs : specA s i = some sp) (l : List Tk) (f : Nat) : refF (f + 1) s i noB l = refF f s (i + sp.size) (if sp.raw = true then sp.name else noB) (l ++ [spTk i sp]) := by
  rw [refF, if_pos h, if_neg (fun h => h.1 noB_size), hs]
theorem refF_raw {s nm : ByteArray} {i : Nat} (h : i < s.size) (hn : nm.size ≠ 0) (hc : closesB s nm i = false) (l : List Tk) (f : Nat) : refF (f + 1) s i nm l = refF f s (rawE s nm i) noB (l ++ [rawTk i (rawE s nm i)]) := by
  rw [refF, if_pos h, if_pos ⟨hn, hc⟩]
theorem refF_shut {s nm : ByteArray} {i : Nat} (h : i < s.size) (hc : closesB s nm i = true) (l : List Tk) (f : Nat) : refF (f + 1) s i nm l = refF (f + 1) s i noB l := by
  rw [refF, refF, if_pos h, if_pos h, if_neg (fun h => by rw [hc] at h; exact absurd h.2 (by decide)), if_neg (fun h => h.1 noB_size)]
theorem name_pos {x : ByteArray} (h : x = scriptB ∨ x = styleB) : x.size ≠ 0 := by
  rcases h with rfl | rfl <;> decide
theorem refF_law (s : ByteArray) : ∀ (d i : Nat), s.size - i ≤ d → i ≤ s.size → ∀ f, s.size - i ≤ f →
    (∀ l, NoTxt l → refF f s i noB l = l ++ toksAt s i) ∧
    (∀ l fr, refF f s i noB (l ++ [textTk fr i]) = l ++ textTk fr (scanTo (specB s) s.size i) :: toksAt s (scanTo (specB s) s.size i)) ∧
    (∀ nm l, nm.size ≠ 0 → NoTxt l → refF f s i nm l = l ++ (if i < rawE s nm i then rawTk i (rawE s nm i) :: toksAt s (rawE s nm i) else toksAt s i)) := by
  intro d
  induction d with
  | zero =>
    intro i hd hi f hf
    have h : s.size ≤ i := by omega
    refine ⟨fun l hl => ?_, fun l fr => ?_, fun nm l hn hl => ?_⟩
    · rw [refF_end h, toksAt_end h, List.append_nil]
    · rw [refF_end h, scanTo_end h, toksAt_end h]
    · rw [refF_end h, if_neg (by unfold rawE; rw [scanTo_end h]; omega), toksAt_end h, List.append_nil]
  | succ d ih =>
    intro i hd hi f hf
    by_cases hi2 : i < s.size
    · obtain ⟨g, rfl⟩ : ∃ g, f = g + 1 := ⟨f - 1, by omega⟩
      -- what begins here, whatever stands ahead
      have hS : ∀ sp, specA s i = some sp → ∀ l, refF (g + 1) s i noB l = l ++ toksAt s i := by
        intro sp hs l
        have hb := specA_bd hs
        have hnt : NoTxt (l ++ [spTk i sp]) := NoTxt.snoc l (by show sp.kind ≠ 0; omega)
        obtain ⟨iA, _, iC⟩ := ih (i + sp.size) (by omega) hb.2.1 g (by omega)
        rw [refF_some hi2 hs]
        cases hr : sp.raw with
        | false =>
          rw [if_neg (by decide), iA _ hnt, toksAt_spec hi2 hs (fun h => by rw [hr] at h; exact absurd h.1 (by decide)), List.append_assoc]
          rfl
        | true =>
          rw [if_pos rfl, iC _ _ (name_pos (specA_raw hs hr).2) hnt, List.append_assoc]
          by_cases hlt : i + sp.size < rawE s sp.name (i + sp.size)
          · rw [if_pos hlt, toksAt_raw hi2 hs ⟨hr, hlt⟩]
            rfl
          · rw [if_neg hlt, toksAt_spec hi2 hs (fun h => hlt h.2)]
            rfl
      have hA : ∀ l, NoTxt l → refF (g + 1) s i noB l = l ++ toksAt s i := by
        intro l hl
        cases hs : specA s i with
        | some sp => exact hS sp hs l
        | none =>
          rw [refF_none hi2 hs, addT_new hl, (ih (i + 1) (by omega) (by omega) g (by omega)).2.1, toksAt_text hi2 hs]
          rfl
      refine ⟨hA, fun l fr => ?_, fun nm l hn hl => ?_⟩
      · cases hs : specA s i with
        | some sp =>
          have hst : scanTo (specB s) s.size i = i := scanTo_stop hi2 (by unfold specB; rw [hs]; rfl)
          rw [hS sp hs, hst, List.append_assoc]
          rfl
        | none =>
          rw [refF_none hi2 hs, addT_on, (ih (i + 1) (by omega) (by omega) g (by omega)).2.1, scanTo_step hi2 (by unfold specB; rw [hs]; rfl)]
      · cases hc : closesB s nm i with
        | true =>
          have hst : rawE s nm i = i := scanTo_stop hi2 hc
          rw [refF_shut hi2 hc, hA l hl, if_neg (by omega)]
        | false =>
          have h1 := scanTo_ge (closesB s nm) s.size (i + 1)
          have h2 := scanTo_le (closesB s nm) (n := s.size) (i := i + 1) (by omega)
          have he : rawE s nm i = scanTo (closesB s nm) s.size (i + 1) := scanTo_step hi2 hc
          rw [refF_raw hi2 hn hc, if_pos (by omega), (ih (rawE s nm i) (by omega) (by omega) g (by omega)).1 _ (NoTxt.snoc l (by show (7 : Int) ≠ 0; decide)), List.append_assoc]
          rfl
    · have h : s.size ≤ i := by omega
      refine ⟨fun l hl => ?_, fun l fr => ?_, fun nm l hn hl => ?_⟩
      · rw [refF_end h, toksAt_end h, List.append_nil]
      · rw [refF_end h, scanTo_end h, toksAt_end h]
      · rw [refF_end h, if_neg (by unfold rawE; rw [scanTo_end h]; omega), toksAt_end h, List.append_nil]
theorem ref_toks (s : ByteArray) : refF s.size s 0 noB [] = toks s := by
  have := (refF_law s s.size 0 (by omega) (Nat.zero_le _) s.size (by omega)).1 [] (fun z h => by cases h)
  rw [this]
  rfl

/-- Tokens, one behind another from a place to the end; behind one of a kind. -/
def tileP (n : Nat) : Nat → Int → List Tk → Prop
  | i, _, [] => i = n
  | i, pk, t :: r => t.fr = i ∧ i < t.til ∧ (0 ≤ t.kind ∧ t.kind ≤ 7) ∧ ¬ (t.kind = 0 ∧ pk = 0) ∧ (t.kind = 7 → pk = 2) ∧ tileP n t.til t.kind r
theorem toks_tile (s : ByteArray) : ∀ (d i : Nat) (pk : Int), s.size - i ≤ d → i ≤ s.size → (pk = 0 → i < s.size → specB s i = true) → tileP s.size i pk (toksAt s i) := by
  intro d
  induction d with
  | zero =>
    intro i pk hd hi hp
    rw [toksAt_end (by omega)]
    show i = s.size
    omega
  | succ d ih =>
    intro i pk hd hi hp
    by_cases hi2 : i < s.size
    · cases hs : specA s i with
      | none =>
        have h1 := scanTo_ge (specB s) s.size (i + 1)
        have h2 := scanTo_le (specB s) (n := s.size) (i := i + 1) (by omega)
        rw [toksAt_text hi2 hs]
        refine ⟨rfl, by show i < textE s i; unfold textE; omega, ⟨(by show (0 : Int) ≤ 0; decide), (by show (0 : Int) ≤ 7; decide)⟩, ?_, fun h => absurd (show (0 : Int) = 7 from h) (by decide), ?_⟩
        · rintro ⟨_, h⟩
          have := hp h hi2
          unfold specB at this
          rw [hs] at this
          cases this
        · exact ih (textE s i) 0 (by unfold textE; omega) h2 (fun _ h => scanTo_at h)
      | some sp =>
        have hb := specA_bd hs
        by_cases hr : sp.raw = true ∧ i + sp.size < rawE s sp.name (i + sp.size)
        · have h2 := scanTo_le (closesB s sp.name) (n := s.size) (i := i + sp.size) hb.2.1
          rw [toksAt_raw hi2 hs hr]
          refine ⟨rfl, by show i < i + sp.size; omega, ⟨by show 0 ≤ sp.kind; omega, by show sp.kind ≤ 7; omega⟩, ?_, ?_, ?_⟩
          · rintro ⟨h, _⟩
            have h : sp.kind = 0 := h
            omega
          · intro h
            have h : sp.kind = 7 := h
            omega
          · refine ⟨rfl, hr.2, ⟨(by show (0 : Int) ≤ 7; decide), (by show (7 : Int) ≤ 7; decide)⟩, fun h => absurd (show (7 : Int) = 0 from h.1) (by decide), fun _ => (specA_raw hs hr.1).1, ?_⟩
            exact ih (rawE s sp.name (i + sp.size)) 7 (by omega) h2 (fun h => absurd h (by decide))
        · rw [toksAt_spec hi2 hs hr]
          refine ⟨rfl, by show i < i + sp.size; omega, ⟨by show 0 ≤ sp.kind; omega, by show sp.kind ≤ 7; omega⟩, ?_, ?_, ?_⟩
          · rintro ⟨h, _⟩
            have h : sp.kind = 0 := h
            omega
          · intro h
            have h : sp.kind = 7 := h
            omega
          · refine ih (i + sp.size) sp.kind (by omega) hb.2.1 (fun h => ?_)
            omega
    · rw [toksAt_end (by omega)]
      show i = s.size
      omega
theorem toks_tiles (s : ByteArray) : tileP s.size 0 (-1) (toks s) := toks_tile s _ 0 (-1) (Nat.le_refl _) (Nat.zero_le _) (fun h => absurd h (by decide))

/-- From a place on. -/
theorem ext_extT (s : ByteArray) (k i : Nat) : (s.extract k s.size).extract i (s.extract k s.size).size = s.extract (k + i) s.size := by
  apply ByteArray.ext
  rw [ByteArray.data_extract, ByteArray.data_extract, ByteArray.data_extract, ext_size, Array.extract_extract]
  congr 1
  have : s.data.size = s.size := rfl
  omega
theorem byt_ext (s : ByteArray) (k i : Nat) (h : k + i < s.size) : byt (s.extract k s.size) i = byt s (k + i) := byt_extract s k s.size i (by omega) (Nat.le_refl _)
theorem specA_ext (s : ByteArray) (k i : Nat) (h : k + i < s.size) : specA (s.extract k s.size) i = specA s (k + i) := by
  have hb := byt_ext s k i h
  have hz := ext_size s k
  have hx := ext_extT s k i
  have e1 : readV (s.extract k s.size) (i : Int) = readV s ((k + i : Nat) : Int) := by
    unfold readV
    rw [Int.toNat_natCast, Int.toNat_natCast, hb, hx, hz]
    by_cases hc : ((k + i : Nat) : Int) < 0 ∨ (s.size : Int) - 1 ≤ ((k + i : Nat) : Int) ∨ byt s (k + i) ≠ 60
    · rw [if_pos hc, if_pos (by
        rcases hc with h | h | h
        · omega
        · exact .inr (.inl (by omega))
        · exact .inr (.inr h))]
    · rw [if_neg hc, if_neg (by
        rintro (h | h | h)
        · omega
        · exact hc (.inr (.inl (by omega)))
        · exact hc (.inr (.inr h)))]
  have e2 : entR (s.extract k s.size) (i : Int) = entR s ((k + i : Nat) : Int) := by
    unfold entR
    rw [Int.toNat_natCast, Int.toNat_natCast, hb, hx, hz]
    by_cases hc : byt s (k + i) = 38
    · rw [if_pos ⟨by omega, by omega, hc⟩, if_pos ⟨by omega, by omega, hc⟩]
    · rw [if_neg (fun h => hc h.2.2), if_neg (fun h => hc h.2.2)]
  have e3 : readE (s.extract k s.size) (i : Int) = readE s ((k + i : Nat) : Int) := by
    unfold readE
    rw [Int.toNat_natCast, Int.toNat_natCast, hb, hx, hz]
    by_cases hc : byt s (k + i) = 27
    · rw [if_pos ⟨by omega, by omega, hc⟩, if_pos ⟨by omega, by omega, hc⟩]
    · rw [if_neg (fun h => hc h.2.2), if_neg (fun h => hc h.2.2)]
  unfold specA
  rw [hb, e1, e2, e3]
end Go.Proofs.YtpnbkecchfhimaaGreatDoor
