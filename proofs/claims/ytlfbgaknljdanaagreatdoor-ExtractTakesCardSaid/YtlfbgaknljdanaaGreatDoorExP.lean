/- Chapter 23: items: the plain law. -/
import Derived.Test.YtlfbgaknljdanaaGreatDoorExB
import Derived.Test.YtlfbgaknljdanaaGreatDoorS1
import Derived.Test.YtlfbgaknljdanaaGreatDoorTkP3
namespace Go.Proofs.YtlfbgaknljdanaaGreatDoor
set_option linter.unusedVariables false
set_option maxRecDepth 100000

/-- An item. -/
structure It where
  r : Int
  at_ : Nat
  sz : Nat
  fo : Bool
  ch : Bool
  nb : Bool
  pr : Bool
/-- What an extractor knows. -/
structure Xs where
  n : Ne
  fo : Bool
  ch : Bool
def itC (x : It) : List Value := [.int .i32 x.r, .int .i64 x.at_, .int .i64 x.sz, .bool x.fo, .bool x.ch, .bool x.nb, .bool x.pr]
def itCells (l : List It) : List Value := l.flatMap itC
theorem itCells_snoc (l : List It) (t : It) : itCells (l ++ [t]) = itCells l ++ itC t := by simp [itCells, List.flatMap_append]
theorem itCells_app (l m : List It) : itCells (l ++ m) = itCells l ++ itCells m := by simp [itCells, List.flatMap_append]
theorem itCells_len (l : List It) : (itCells l).length = l.length * 7 := by
  induction l with
  | nil => rfl
  | cons t l ih =>
    have : itCells (t :: l) = itC t ++ itCells l := rfl
    rw [this, List.length_append, ih, List.length_cons]
    show 7 + _ = _
    omega
theorem itCells_get : ∀ (l : List It) (j : Nat) (h : j < l.length) (f : Nat), f < 7 → (itCells l)[j * 7 + f]? = (itC l[j])[f]?
  | t :: l, 0, h, f, hf => by
    have e : itCells (t :: l) = itC t ++ itCells l := rfl
    rw [e, Nat.zero_mul, Nat.zero_add, List.getElem?_append_left (by show f < 7; exact hf)]
    simp
  | t :: l, j + 1, h, f, hf => by
    have e : itCells (t :: l) = itC t ++ itCells l := rfl
    have h6 : (itC t).length = 7 := rfl
    rw [e, List.getElem?_append_right (by rw [h6]; omega), h6, show (j + 1) * 7 + f - 7 = j * 7 + f by omega]
    exact itCells_get l j (by simpa using h) f hf
theorem itCells_one (l : List It) : ∀ u ∈ itCells l, u.oneCell' = true := by
  intro u hu
  obtain ⟨x, _, hx⟩ := List.mem_flatMap.1 hu
  simp only [itC, List.mem_cons, List.not_mem_nil, or_false] at hx
  rcases hx with rfl | rfl | rfl | rfl | rfl | rfl | rfl <;> rfl
/-- The items of a text that begins at f. -/
def pcIts (f : Nat) (fo ch nb pr : Bool) : List S1.Pc → List It
  | [] => []
  | p :: l => ⟨p.r, f + p.at_, p.size, fo, ch, nb, pr⟩ :: pcIts f false false nb pr l
theorem pcIts_snoc (f : Nat) (nb pr : Bool) (p : S1.Pc) : ∀ (l : List S1.Pc) (fo ch : Bool), pcIts f fo ch nb pr (l ++ [p]) = pcIts f fo ch nb pr l ++ [⟨p.r, f + p.at_, p.size, fo && l.isEmpty, ch && l.isEmpty, nb, pr⟩]
  | [], fo, ch => by simp [pcIts]
  | q :: l, fo, ch => by
    show _ :: pcIts f false false nb pr (l ++ [p]) = _ :: (pcIts f false false nb pr l ++ _)
    rw [pcIts_snoc f nb pr p l false false]
    simp
theorem pcIts_len (f : Nat) (nb pr : Bool) : ∀ (l : List S1.Pc) (fo ch : Bool), (pcIts f fo ch nb pr l).length = l.length
  | [], _, _ => rfl
  | p :: l, fo, ch => by
    show (pcIts f false false nb pr l).length + 1 = l.length + 1
    rw [pcIts_len f nb pr l]
/-- A token, taken; zs: its bytes. -/
def exTake (x : Xs) (t : Tk) (zs : List Int) : Xs × List It :=
  if t.kind = 2 ∨ t.kind = 3 then (⟨(neTake x.n t.kind t.name t.single).1, x.fo || (neTake x.n t.kind t.name t.single).2.1, x.ch || (neTake x.n t.kind t.name t.single).2.2⟩, [])
  else if 0 < x.n.h then (x, [])
  else if t.kind = 0 then (⟨x.n, x.fo && zs.isEmpty, x.ch && zs.isEmpty⟩, pcIts t.fr x.fo x.ch (decide (0 < x.n.b)) (decide (0 < x.n.p)) (S1.pcs zs))
  else if t.kind = 1 then (⟨x.n, false, false⟩, [⟨t.r, t.fr, t.til - t.fr, x.fo, x.ch, decide (0 < x.n.b), decide (0 < x.n.p)⟩])
  else (x, [])
theorem exTake_ok {x : Xs} (h : x.n.ok) (t : Tk) (zs : List Int) : (exTake x t zs).1.n.ok := by
  unfold exTake
  split
  · exact neTake_ok h _ _ _
  · split
    · exact h
    · split
      · exact h
      · split
        · exact h
        · exact h
def seg (s : ByteArray) (t : Tk) : List Int := intsOf (s.extract t.fr t.til)
theorem seg_len {s : ByteArray} {t : Tk} (h : t.til ≤ s.size) : (seg s t).length = t.til - t.fr := by
  unfold seg
  rw [intsOf_len, ByteArray.size_extract]
  omega
theorem exTake_len {x : Xs} {s : ByteArray} {t : Tk} (h : t.fr < t.til) (h2 : t.til ≤ s.size) : (exTake x t (seg s t)).2.length ≤ t.til - t.fr := by
  unfold exTake
  split
  · exact Nat.zero_le _
  · split
    · exact Nat.zero_le _
    · split
      · simp only
        rw [pcIts_len]
        have := S1.pcs_length (seg s t)
        rw [seg_len h2] at this
        exact this
      · split
        · show 1 ≤ _
          omega
        · exact Nat.zero_le _
/-- What an extractor knows behind tokens, and their items. -/
def exGo (s : ByteArray) : Xs → List Tk → Xs × List It
  | x, [] => (x, [])
  | x, t :: l => ((exGo s (exTake x t (seg s t)).1 l).1, (exTake x t (seg s t)).2 ++ (exGo s (exTake x t (seg s t)).1 l).2)
theorem exGo_snoc (s : ByteArray) (t : Tk) : ∀ (l : List Tk) (x : Xs), exGo s x (l ++ [t]) = ((exTake (exGo s x l).1 t (seg s t)).1, (exGo s x l).2 ++ (exTake (exGo s x l).1 t (seg s t)).2)
  | [], x => by simp [exGo]
  | u :: l, x => by
    simp only [List.cons_append, exGo]
    rw [exGo_snoc s t l]
    simp
theorem exGo_ok (s : ByteArray) : ∀ (l : List Tk) (x : Xs), x.n.ok → (exGo s x l).1.n.ok
  | [], x, h => h
  | t :: l, x, h => exGo_ok s l _ (exTake_ok h t _)
def xs0 : Xs := ⟨⟨0, 0, 0⟩, false, false⟩
theorem xs0_ok : xs0.n.ok := by unfold xs0 Ne.ok; simp
def exAll (s : ByteArray) : List It := (exGo s xs0 (toks s)).2
theorem exGo_toks_len (s : ByteArray) : ∀ (d i : Nat), s.size - i ≤ d → ∀ x : Xs, (exGo s x (toksAt s i)).2.length ≤ s.size - i := by
  intro d
  induction d with
  | zero =>
    intro i hd x
    rw [toksAt_end (by omega)]
    exact Nat.zero_le _
  | succ d ih =>
    intro i hd x
    by_cases hi : i < s.size
    · cases hs : specA s i with
      | none =>
        have h1 := scanTo_ge (specB s) s.size (i + 1)
        have h2 := scanTo_le (specB s) (n := s.size) (i := i + 1) (by omega)
        rw [toksAt_text hi hs]
        show (_ ++ _ : List It).length ≤ _
        rw [List.length_append]
        have a := ih (textE s i) (by unfold textE; omega) (exTake x (textTk i (textE s i)) (seg s (textTk i (textE s i)))).1
        have b := exTake_len (x := x) (s := s) (t := textTk i (textE s i)) (by show i < textE s i; unfold textE; omega) h2
        have b' : (exTake x (textTk i (textE s i)) (seg s (textTk i (textE s i)))).2.length ≤ textE s i - i := b
        unfold textE at *
        omega
      | some sp =>
        have hb := specA_bd hs
        by_cases hr : sp.raw = true ∧ i + sp.size < rawE s sp.name (i + sp.size)
        · have h2 := scanTo_le (closesB s sp.name) (n := s.size) (i := i + sp.size) hb.2.1
          rw [toksAt_raw hi hs hr]
          show (_ ++ (_ ++ _) : List It).length ≤ _
          rw [List.length_append, List.length_append]
          have b : (exTake x (spTk i sp) (seg s (spTk i sp))).2.length ≤ i + sp.size - i := exTake_len (x := x) (s := s) (t := spTk i sp) (by show i < i + sp.size; omega) hb.2.1
          generalize (exTake x (spTk i sp) (seg s (spTk i sp))).1 = x1
          have c : (exTake x1 (rawTk (i + sp.size) (rawE s sp.name (i + sp.size))) (seg s (rawTk (i + sp.size) (rawE s sp.name (i + sp.size))))).2.length ≤ rawE s sp.name (i + sp.size) - (i + sp.size) := exTake_len (x := x1) (s := s) (t := rawTk (i + sp.size) (rawE s sp.name (i + sp.size))) hr.2 h2
          generalize (exTake x1 (rawTk (i + sp.size) (rawE s sp.name (i + sp.size))) (seg s (rawTk (i + sp.size) (rawE s sp.name (i + sp.size))))).1 = x2
          have a := ih (rawE s sp.name (i + sp.size)) (by omega) x2
          have h2' : rawE s sp.name (i + sp.size) ≤ s.size := h2
          omega
        · rw [toksAt_spec hi hs hr]
          show (_ ++ _ : List It).length ≤ _
          rw [List.length_append]
          have b : (exTake x (spTk i sp) (seg s (spTk i sp))).2.length ≤ i + sp.size - i := exTake_len (x := x) (s := s) (t := spTk i sp) (by show i < i + sp.size; omega) hb.2.1
          have a := ih (i + sp.size) (by omega) (exTake x (spTk i sp) (seg s (spTk i sp))).1
          omega
    · rw [toksAt_end (by omega)]
      exact Nat.zero_le _
theorem exAll_len (s : ByteArray) : (exAll s).length ≤ s.size := by
  have := exGo_toks_len s _ 0 (Nat.le_refl _) xs0
  unfold exAll toks
  omega
theorem exGo_app (s : ByteArray) : ∀ (l m : List Tk) (x : Xs), exGo s x (l ++ m) = ((exGo s (exGo s x l).1 m).1, (exGo s x l).2 ++ (exGo s (exGo s x l).1 m).2)
  | [], m, x => by simp [exGo]
  | t :: l, m, x => by
    simp only [List.cons_append, exGo]
    rw [exGo_app s l m]
    simp
/-- Items of the first tokens are no more than all. -/
theorem exGo_pre_len (s : ByteArray) (l m : List Tk) (h : l ++ m = toks s) : (exGo s xs0 l).2.length ≤ s.size := by
  have := exAll_len s
  unfold exAll at this
  rw [← h, exGo_app] at this
  simp only [List.length_append] at this
  omega
end Go.Proofs.YtlfbgaknljdanaaGreatDoor
