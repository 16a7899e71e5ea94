/- Texts of ExP, ExK, ExC, ExE, ExF, merged by a program of mine. -/
import Derived.Test.YtlfbgaknljdanaaGreatDoorExM1
import Derived.Test.YtlfbgaknljdanaaGreatDoorS1
import Derived.Test.YtlfbgaknljdanaaGreatDoorTkP3
import Derived.BigRegion
import Derived.BigQuiet
import Derived.Test.YtlfbgaknljdanaaGreatDoorTkF

/- out of ExP -/
namespace Go.Proofs.YtlfbgaknljdanaaGreatDoor
set_option linter.unusedVariables false
set_option maxRecDepth 100000

/-- An item. -/
structure It where
  r : Int
  at_ : Nat
  sz : Nat
  fo : Bool
  ch : Bool
  nb : Bool
  pr : Bool
/-- What an extractor knows. -/
structure Xs where
  n : Ne
  fo : Bool
  ch : Bool
def itC (x : It) : List Value := [.int .i32 x.r, .int .i64 x.at_, .int .i64 x.sz, .bool x.fo, .bool x.ch, .bool x.nb, .bool x.pr]
def itCells (l : List It) : List Value := l.flatMap itC
theorem itCells_snoc (l : List It) (t : It) : itCells (l ++ [t]) = itCells l ++ itC t := by simp [itCells, List.flatMap_append]
theorem itCells_app (l m : List It) : itCells (l ++ m) = itCells l ++ itCells m := by simp [itCells, List.flatMap_append]
theorem itCells_len (l : List It) : (itCells l).length = l.length * 7 := by
  induction l with
  | nil => rfl
  | cons t l ih =>
    have : itCells (t :: l) = itC t ++ itCells l := rfl
    rw [this, List.length_append, ih, List.length_cons]
    show 7 + _ = _
    omega
theorem itCells_get : ∀ (l : List It) (j : Nat) (h : j < l.length) (f : Nat), f < 7 → (itCells l)[j * 7 + f]? = (itC l[j])[f]?
  | t :: l, 0, h, f, hf => by
    have e : itCells (t :: l) = itC t ++ itCells l := rfl
    rw [e, Nat.zero_mul, Nat.zero_add, List.getElem?_append_left (by show f < 7; exact hf)]
    simp
  | t :: l, j + 1, h, f, hf => by
    have e : itCells (t :: l) = itC t ++ itCells l := rfl
    have h6 : (itC t).length = 7 := rfl
    rw [e, List.getElem?_append_right (by rw [h6]; omega), h6, show (j + 1) * 7 + f - 7 = j * 7 + f by omega]
    exact itCells_get l j (by simpa using h) f hf
theorem itCells_one (l : List It) : ∀ u ∈ itCells l, u.oneCell' = true := by
  intro u hu
  obtain ⟨x, _, hx⟩ := List.mem_flatMap.1 hu
  simp only [itC, List.mem_cons, List.not_mem_nil, or_false] at hx
  rcases hx with rfl | rfl | rfl | rfl | rfl | rfl | rfl <;> rfl
/-- The items of a text that begins at f. -/
def pcIts (f : Nat) (fo ch nb pr : Bool) : List S1.Pc → List It
  | [] => []
  | p :: l => ⟨p.r, f + p.at_, p.size, fo, ch, nb, pr⟩ :: pcIts f false false nb pr l
theorem pcIts_snoc (f : Nat) (nb pr : Bool) (p : S1.Pc) : ∀ (l : List S1.Pc) (fo ch : Bool), pcIts f fo ch nb pr (l ++ [p]) = pcIts f fo ch nb pr l ++ [⟨p.r, f + p.at_, p.size, fo && l.isEmpty, ch && l.isEmpty, nb, pr⟩]
  | [], fo, ch => by simp [pcIts]
  | q :: l, fo, ch => by
    show _ :: pcIts f false false nb pr (l ++ [p]) = _ :: (pcIts f false false nb pr l ++ _)
    rw [pcIts_snoc f nb pr p l false false]
    simp
theorem pcIts_len (f : Nat) (nb pr : Bool) : ∀ (l : List S1.Pc) (fo ch : Bool), (pcIts f fo ch nb pr l).length = l.length
  | [], _, _ => rfl
  | p :: l, fo, ch => by
    show (pcIts f false false nb pr l).length + 1 = l.length + 1
    rw [pcIts_len f nb pr l]
/-- A token, taken; zs: its bytes. -/
def exTake (x : Xs) (t : Tk) (zs : List Int) : Xs × List It :=
  if t.kind = 2 ∨ t.kind = 3 then (⟨(neTake x.n t.kind t.name t.single).1, x.fo || (neTake x.n t.kind t.name t.single).2.1, x.ch || (neTake x.n t.kind t.name t.single).2.2⟩, [])
  else if 0 < x.n.h then (x, [])
  else if t.kind = 0 then (⟨x.n, x.fo && zs.isEmpty, x.ch && zs.isEmpty⟩, pcIts t.fr x.fo x.ch (decide (0 < x.n.b)) (decide (0 < x.n.p)) (S1.pcs zs))
  else if t.kind = 1 then (⟨x.n, false, false⟩, [⟨t.r, t.fr, t.til - t.fr, x.fo, x.ch, decide (0 < x.n.b), decide (0 < x.n.p)⟩])
  else (x, [])
theorem exTake_ok {x : Xs} (h : x.n.ok) (t : Tk) (zs : List Int) : (exTake x t zs).1.n.ok := by
  unfold exTake
  split
  · exact neTake_ok h _ _ _
  · split
    · exact h
    · split
      · exact h
      · split
        · exact h
        · exact h
def seg (s : ByteArray) (t : Tk) : List Int := intsOf (s.extract t.fr t.til)
theorem seg_len {s : ByteArray} {t : Tk} (h : t.til ≤ s.size) : (seg s t).length = t.til - t.fr := by
  unfold seg
  rw [intsOf_len, ByteArray.size_extract]
  omega
theorem exTake_len {x : Xs} {s : ByteArray} {t : Tk} (h : t.fr < t.til) (h2 : t.til ≤ s.size) : (exTake x t (seg s t)).2.length ≤ t.til - t.fr := by
  unfold exTake
  split
  · exact Nat.zero_le _
  · split
    · exact Nat.zero_le _
    · split
      · simp only
        rw [pcIts_len]
        have := S1.pcs_length (seg s t)
        rw [seg_len h2] at this
        exact this
      · split
        · show 1 ≤ _
          omega
        · exact Nat.zero_le _
/-- What an extractor knows behind tokens, and their items. -/
def exGo (s : ByteArray) : Xs → List Tk → Xs × List It
  | x, [] => (x, [])
  | x, t :: l => ((exGo s (exTake x t (seg s t)).1 l).1, (exTake x t (seg s t)).2 ++ (exGo s (exTake x t (seg s t)).1 l).2)
theorem exGo_snoc (s : ByteArray) (t : Tk) : ∀ (l : List Tk) (x : Xs), exGo s x (l ++ [t]) = ((exTake (exGo s x l).1 t (seg s t)).1, (exGo s x l).2 ++ (exTake (exGo s x l).1 t (seg s t)).2)
  | [], x => by simp [exGo]
  | u :: l, x => by
    simp only [List.cons_append, exGo]
    rw [exGo_snoc s t l]
    simp
theorem exGo_ok (s : ByteArray) : ∀ (l : List Tk) (x : Xs), x.n.ok → (exGo s x l).1.n.ok
  | [], x, h => h
  | t :: l, x, h => exGo_ok s l _ (exTake_ok h t _)
def xs0 : Xs := ⟨⟨0, 0, 0⟩, false, false⟩
theorem xs0_ok : xs0.n.ok := by unfold xs0 Ne.ok; simp
def exAll (s : ByteArray) : List It := (exGo s xs0 (toks s)).2
theorem exGo_toks_len (s : ByteArray) : ∀ (d i : Nat), s.size - i ≤ d → ∀ x : Xs, (exGo s x (toksAt s i)).2.length ≤ s.size - i := by
  intro d
  induction d with
  | zero =>
    intro i hd x
    rw [toksAt_end (by omega)]
    exact Nat.zero_le _
  | succ d ih =>
    intro i hd x
    by_cases hi : i < s.size
    · cases hs : specA s i with
      | none =>
        have h1 := scanTo_ge (specB s) s.size (i + 1)
        have h2 := scanTo_le (specB s) (n := s.size) (i := i + 1) (by omega)
        rw [toksAt_text hi hs]
        show (_ ++ _ : List It).length ≤ _
        rw [List.length_append]
        have a := ih (textE s i) (by unfold textE; omega) (exTake x (textTk i (textE s i)) (seg s (textTk i (textE s i)))).1
        have b := exTake_len (x := x) (s := s) (t := textTk i (textE s i)) (by show i < textE s i; unfold textE; omega) h2
        have b' : (exTake x (textTk i (textE s i)) (seg s (textTk i (textE s i)))).2.length ≤ textE s i - i := b
        unfold textE at *
        omega
      | some sp =>
        have hb := specA_bd hs
        by_cases hr : sp.raw = true ∧ i + sp.size < rawE s sp.name (i + sp.size)
        · have h2 := scanTo_le (closesB s sp.name) (n := s.size) (i := i + sp.size) hb.2.1
          rw [toksAt_raw hi hs hr]
          show (_ ++ (_ ++ _) : List It).length ≤ _
          rw [List.length_append, List.length_append]
          have b : (exTake x (spTk i sp) (seg s (spTk i sp))).2.length ≤ i + sp.size - i := exTake_len (x := x) (s := s) (t := spTk i sp) (by show i < i + sp.size; omega) hb.2.1
          generalize (exTake x (spTk i sp) (seg s (spTk i sp))).1 = x1
          have c : (exTake x1 (rawTk (i + sp.size) (rawE s sp.name (i + sp.size))) (seg s (rawTk (i + sp.size) (rawE s sp.name (i + sp.size))))).2.length ≤ rawE s sp.name (i + sp.size) - (i + sp.size) := exTake_len (x := x1) (s := s) (t := rawTk (i + sp.size) (rawE s sp.name (i + sp.size))) hr.2 h2
          generalize (exTake x1 (rawTk (i + sp.size) (rawE s sp.name (i + sp.size))) (seg s (rawTk (i + sp.size) (rawE s sp.name (i + sp.size))))).1 = x2
          have a := ih (rawE s sp.name (i + sp.size)) (by omega) x2
          have h2' : rawE s sp.name (i + sp.size) ≤ s.size := h2
          omega
        · rw [toksAt_spec hi hs hr]
          show (_ ++ _ : List It).length ≤ _
          rw [List.length_append]
          have b : (exTake x (spTk i sp) (seg s (spTk i sp))).2.length ≤ i + sp.size - i := exTake_len (x := x) (s := s) (t := spTk i sp) (by show i < i + sp.size; omega) hb.2.1
          have a := ih (i + sp.size) (by omega) (exTake x (spTk i sp) (seg s (spTk i sp))).1
          omega
    · rw [toksAt_end (by omega)]
      exact Nat.zero_le _
theorem exAll_len (s : ByteArray) : (exAll s).length ≤ s.size := by
  have := exGo_toks_len s _ 0 (Nat.le_refl _) xs0
  unfold exAll toks
  omega
theorem exGo_app (s : ByteArray) : ∀ (l m : List Tk) (x : Xs), exGo s x (l ++ m) = ((exGo s (exGo s x l).1 m).1, (exGo s x l).2 ++ (exGo s (exGo s x l).1 m).2)
  | [], m, x => by simp [exGo]
  | t :: l, m, x => by
    simp only [List.cons_append, exGo]
    rw [exGo_app s l m]
    simp
/-- Items of the first tokens are no more than all. -/
theorem exGo_pre_len (s : ByteArray) (l m : List Tk) (h : l ++ m = toks s) : (exGo s xs0 l).2.length ≤ s.size := by
  have := exAll_len s
  unfold exAll at this
  rw [← h, exGo_app] at this
  simp only [List.length_append] at this
  omega
end Go.Proofs.YtlfbgaknljdanaaGreatDoor

/- out of ExK -/
namespace Go.Proofs.YtlfbgaknljdanaaGreatDoor
open Go.RowKit
set_option linter.unusedVariables false

/-- All old blocks but two are as they were. -/
structure Kept2 (g q : Nat) (w w' : World) : Prop where
  os : w'.os = w.os
  tape : w'.tape = w.tape
  output : w'.output = w.output
  size : w.heap.size ≤ w'.heap.size
  block : ∀ k, k < w.heap.size → k ≠ g → k ≠ q → w'.heap[k]? = w.heap[k]?
theorem Kept2.refl (g q : Nat) (w : World) : Kept2 g q w w := ⟨rfl, rfl, rfl, Nat.le_refl _, fun _ _ _ _ => rfl⟩
theorem Kept2.trans {g q : Nat} {a b c : World} (h : Kept2 g q a b) (k : Kept2 g q b c) : Kept2 g q a c :=
  ⟨k.os.trans h.os, k.tape.trans h.tape, k.output.trans h.output, Nat.le_trans h.size k.size, fun i hi h1 h2 => (k.block i (Nat.lt_of_lt_of_le hi h.size) h1 h2).trans (h.block i hi h1 h2)⟩
theorem Kept2.of_g {g q : Nat} {w w' : World} (h : w.grownBy w' (some g)) : Kept2 g q w w' :=
  ⟨h.os, h.tape, h.output, h.size, fun k hk h1 _ => h.block k hk (fun e => h1 (by injection e))⟩
theorem Kept2.of_q {g q : Nat} {w w' : World} (h : w.grownBy w' (some q)) : Kept2 g q w w' :=
  ⟨h.os, h.tape, h.output, h.size, fun k hk _ h2 => h.block k hk (fun e => h2 (by injection e))⟩
theorem Kept2.of_below {g q B : Nat} {w w' : World} (h : Below B w w') (hB : w.heap.size ≤ B) : Kept2 g q w w' := ⟨h.os, h.tape, h.output, h.size, fun k hk _ _ => h.block k (Nat.lt_of_lt_of_le hk hB)⟩
theorem Kept2.below {g q B : Nat} {w w' : World} (h : Kept2 g q w w') (hB : B ≤ w.heap.size) (hg : B ≤ g) (hq : B ≤ q) : Below B w w' :=
  ⟨h.os, h.tape, h.output, h.size, fun k hk => h.block k (by omega) (by omega) (by omega)⟩
/-- A row that lies behind the two. -/
theorem Kept2.own {g q B : Nat} {w w' : World} (h : Kept2 g q w w') {e : TypeId} {k n : Nat} {v : Value} {xs : List Value} (ho : w.ownsRow B e k v n xs) (hg : g < B) (hq : q < B) : w'.ownsRow B e k v n xs := by
  refine ⟨ho.1, ?_⟩
  rcases ho.2 with hn | ⟨b, cap, cur, rfl, hb, hgg, rest⟩
  · exact .inl hn
  · exact .inr ⟨b, cap, cur, rfl, hb, (h.block b (Array.getElem?_eq_some_iff.1 hgg).1 (by omega) (by omega)).trans hgg, rest⟩
theorem Kept2.blk {g q b : Nat} {w w' : World} {t : TypeId} {cs : Array Value} (h : Kept2 g q w w') (hk : Blk w b t cs) (h1 : b ≠ g) (h2 : b ≠ q) : Blk w' b t cs := (h.block b hk.lt h1 h2).trans hk
theorem Kept2.cell {g q : Nat} {w w' : World} (h : Kept2 g q w w') {p : Addr} (hp : p.block < w.heap.size) (h1 : p.block ≠ g) (h2 : p.block ≠ q) : w'.cell? p = w.cell? p := World.cell?_of_block (h.block p.block hp h1 h2)
theorem Kept2.grown {g q : Nat} {w w5 w6 : World} {row : Option Nat} (h : Kept2 g q w w5) (hg : w5.grownBy w6 row) (hr : ∀ j, row = some j → w.heap.size ≤ j) : Kept2 g q w w6 :=
  ⟨hg.os.trans h.os, hg.tape.trans h.tape, hg.output.trans h.output, Nat.le_trans h.size hg.size, fun k hk h1 h2 => (hg.block k (Nat.lt_of_lt_of_le hk h.size) (fun e => by have := hr k e.symm; omega)).trans (h.block k hk h1 h2)⟩
/-- A slice of the bytes. -/
theorem ba_seg {w : World} {b off n cap : Nat} {s : ByteArray} {i e : Nat} (hz : Lib.Bytes w b off s) (hb : b < w.heap.size) (hn : n = s.size) (hc : n ≤ cap) (hm : cap ≤ 9223372036854775807) (h1 : i ≤ e) (h2 : e ≤ n) : BA w (some ⟨b, off + i, none⟩) (e - i) (cap - i) (s.extract i e) := by
  refine ⟨by rw [ByteArray.size_extract]; omega, by omega, by omega, fun _ => ⟨b, off + i, rfl, hb, ?_⟩⟩
  apply bytes_of_byt
  intro k hk
  rw [ByteArray.size_extract] at hk
  rw [byt_extract s i e k (by omega) (by omega), Nat.add_assoc, bytes_cell hz (i := i + k) (by omega)]
theorem sb_of_ba {w : World} {a : Option Addr} {n cap : Nat} {s : ByteArray} (h : BA w a n cap s) : S1.SB w a cap (intsOf s) ∧ n = (intsOf s).length := by
  have hl := intsOf_len s
  refine ⟨⟨by rw [hl, ← h.1]; exact h.2.1, h.2.2.1, ?_, ?_⟩, by rw [hl, h.1]⟩
  · intro y hy
    have := intsOf_rng s y hy
    omega
  · by_cases h0 : 0 < n
    · obtain ⟨b, off, e, hb, hz⟩ := h.2.2.2 h0
      refine .inr ⟨b, off, e, hb, fun k hk => ?_⟩
      rw [intsOf_get]
      exact bytes_cell hz (by rw [hl] at hk; exact hk)
    · exact .inl (List.eq_nil_of_length_eq_zero (by rw [hl, ← h.1]; omega))
end Go.Proofs.YtlfbgaknljdanaaGreatDoor

/- out of ExC -/
namespace Go.Proofs.YtlfbgaknljdanaaGreatDoor
open Go.RowKit
open Go.Lib (hid)
set_option linter.unusedVariables false
set_option linter.unusedSimpArgs false
set_option maxRecDepth 100000

theorem sb_grown {w w' : World} {a : Option Addr} {cap g : Nat} {zs : List Int} (h : S1.SB w a cap zs) (hg : w.grownBy w' (some g)) (hne : ∀ b off, a = some ⟨b, off, none⟩ → b ≠ g) : S1.SB w' a cap zs := by
  obtain ⟨h1, h2, h3, h4⟩ := h
  refine ⟨h1, h2, h3, ?_⟩
  rcases h4 with h | ⟨b, off, ha, hlt, hr⟩
  · exact .inl h
  · refine .inr ⟨b, off, ha, Nat.lt_of_lt_of_le hlt hg.size, fun i hi => ?_⟩
    exact (hg.cell_far ⟨b, off + i, none⟩ hlt (by have := hne b off ha; simpa using this)).trans (hr i hi)
def it0 : Array Value := #[.int .i32 0, .int .i64 0, .int .i64 0, .bool false, .bool false, .bool false, .bool false]
theorem info_item : (Tryz.prog.info? 34).map (fun i => (i.zero, i.size, i.bytes)) = some (some (.agg it0), 7, 32) := by kernel_rfl
theorem isEmpty_snoc {α : Type} (l : List α) (x : α) : (l ++ [x]).isEmpty = false := by cases l <;> rfl
theorem readAt_eq {zs : List Int} {i : Nat} (h : i < zs.length) : S1.readAt zs (i : Int) = S1.readF (zs.drop i) := by
  unfold S1.readAt
  rw [if_pos ⟨by omega, by omega⟩, Int.toNat_natCast]
set_option maxHeartbeats 8000000 in
theorem xtext_any (g q : Nat) (ty ty2 : TypeId) (n : Ne) (fo ch : Bool) (at_ : Nat) (a : Option Addr) (cap : Nat) (zs : List Int) (w : World) (hk : Blk w q ty n.cells) (hx : Blk w g ty2 (exCells q fo ch)) (hgq : g ≠ q) (hs : S1.SB w a cap zs) (hat : at_ + zs.length ≤ 1000000) (hag : ∀ b off, a = some ⟨b, off, none⟩ → b ≠ g) :
    Calls Tryz.prog 39 #[.pointer (some ⟨g, 0, none⟩), .int .i64 at_, .slice a zs.length cap] w fun e w' => ∃ v, e = .returned v ∧ w'.ownsRow w.heap.size 34 7 v (S1.pcs zs).length (itCells (pcIts at_ fo ch (decide (0 < n.b)) (decide (0 < n.p)) (S1.pcs zs))) ∧ Blk w' g ty2 (exCells q (fo && (S1.pcs zs).isEmpty) (ch && (S1.pcs zs).isEmpty)) ∧ Blk w' q ty n.cells ∧ w.grownBy w' (some g) := by
  obtain ⟨i0, hi, hz0, hz1, hz2⟩ := info_parts info_item
  have hlen := S1.pcs_length zs
  have HS := hid hs
  have HK := hid hk
  have HX := hid hx
  have HAG := hid hag
  have HIT := hid (fun fo ch r at_ sz W (h1 : Blk W q ty n.cells) (h2 : Blk W g ty2 (exCells q fo ch)) => item_any g q ty ty2 n fo ch r at_ sz W h1 h2 hgq)
  have hglt := hx.lt
  have HQL := hid hk.lt
  clear hs hk hx hag hgq
  generalize hnb : decide (0 < n.b) = nb at *
  generalize hpr : decide (0 < n.p) = pr at *
  clear hnb hpr
  go_enter Tryz.func39, Tryz.ntmps39
  go_wp2
  go_loopw [7, 8] (fun s7 s8 wr => ∃ (v : Value) (i : Nat) (pre : List S1.Pc), s7 = v ∧ s8 = .int .i64 i ∧ i ≤ zs.length ∧ Hid (pre ++ S1.pcsFrom zs i = S1.pcs zs) ∧ Hid (wr.ownsRow w.heap.size 34 7 v pre.length (itCells (pcIts at_ fo ch nb pr pre))) ∧ Hid (Blk wr g ty2 (exCells q (fo && pre.isEmpty) (ch && pre.isEmpty))) ∧ Hid (Blk wr q ty n.cells) ∧ Hid (w.grownBy wr (some g))) (fun _ s8 _ => zs.length - (intOf s8).toNat)
  case atStart => exact ⟨_, 0, [], rfl, rfl, Nat.zero_le _, rfl, World.ownsRow_nil _ _ _ _, by show Blk _ _ _ _; simpa using HX.out, HK.out, World.grownBy.refl _ _⟩
  case round =>
    obtain ⟨v, i, pre, rfl, rfl, hi1, HP, HROW, HXR, HKR, HG⟩ := hrel
    have hszr := HG.out.size
    by_cases hlt : i < zs.length
    · have hlt' : (i : Int) < (zs.length : Int) := by omega
      have hnx := S1.next_any a cap zs i wr (sb_grown HS.out HG.out HAG.out)
      rw [readAt_eq hlt] at hnx
      have hst := S1.pcsFrom_step hlt
      have hsz := S1.readF_drop_size hlt
      generalize S1.readF (zs.drop i) = rd at *
      obtain ⟨r, size, whole⟩ := rd
      simp only at hnx hst hsz
      obtain ⟨hs1, hs2⟩ := hsz
      have HNX := hid hnx
      have HP2 : Hid ((pre ++ [⟨i, size, r, whole⟩]) ++ S1.pcsFrom zs (i + size) = S1.pcs zs) := by
        refine Eq.trans ?_ HP.out
        rw [hst]; simp
      have hplen : pre.length + 1 ≤ 1000000 := by
        have h := congrArg List.length HP2.out
        simp at h
        omega
      have hib : (i : Int) + (size : Int) ≤ 1000000 := by omega
      have hab : (at_ : Int) + (i : Int) = ((at_ + i : Nat) : Int) := by omega
      have hab2 : ((at_ + i : Nat) : Int) ≤ 1000000 := by omega
      have HCE := hid (pcIts_snoc at_ nb pr ⟨i, size, r, whole⟩ pre fo ch)
      have HEM := hid (isEmpty_snoc pre (⟨i, size, r, whole⟩ : S1.Pc))
      generalize hfo : (fo && pre.isEmpty) = f1 at *
      generalize hch : (ch && pre.isEmpty) = c1 at *
      clear hfo hch hnx hst HP hlen hat
      generalize at_ + i = ai at *
      go_wp2_with fail
      refine HNX.out.mono ?_
      rintro e w1 ⟨rfl, qd, rfl⟩
      go_wp2_with fail
      refine (HIT.out f1 c1 r ai size _ (HKR.out.drewN _) (HXR.out.drewN _)).mono ?_
      rintro e w2 ⟨rfl, hx2, hk2, hg2⟩
      have HX2 := hid hx2
      have HK2 := hid hk2
      have HG1 := hid (grown_drewN wr qd (some g))
      have HG2 := hid (HG1.out.trans hg2)
      have hs2z := HG2.out.size
      have hne : ∀ k, u7.ownBlock = some k → (some g : Option Nat) ≠ some k := fun k e e2 => by
        cases e2
        have := (HROW.out.lt _ e).1
        omega
      have HROW2 := hid (own_kept HROW.out HG2.out hne)
      have hb2 : w.heap.size ≤ w2.heap.size := by omega
      have HLT := hid (fun k (e : u7.ownBlock = some k) => HROW2.out.lt k e)
      clear hx2 hk2 hg2 hne
      go_wp2_with (at_builtin; (refine wpList_append_own _ rfl _ _ 26 rfl w.heap.size 34 i0 (.agg it0) 7 32 Tryz.underlying26 hi hz0 hz1 hz2 rfl (by decide) _ _ _ rfl (HROW2.out.alloc _) ⟨w2.heap.size, 0, none⟩ 1 1 [.int .i32 r, .int .i64 ai, .int .i64 size, .bool f1, .bool c1, .bool nb, .bool pr] rfl rfl (World.news_of_block (cs := #[.int .i32 r, .int .i64 ai, .int .i64 size, .bool f1, .bool c1, .bool nb, .bool pr]) (t := 34) (fr := (0, 0)) (heap_alloc_new _ _)) (by simp [Value.oneCell']) (by unfold maxLen; omega) (by omega) (by simp; omega) ?_); intro v' w3 hown' hgrow' _)
      have HX3 := hid ((HX2.out.alloc _).grown hgrow' (fun e => by have := (HLT.out g e.symm).1; omega))
      have HK3 := hid ((HK2.out.alloc _).grown hgrow' (fun e => by have := (HLT.out q e.symm).1; have := HQL.out; omega))
      have HG3 := hid (((HG.out.trans HG2.out).trans (World.grownBy_alloc _ _ _)).andThen hgrow' (fun j e => .inl (HLT.out j e).1))
      go_roundw
      case rel => exact ⟨v', i + size, _, rfl, by go_num, by omega, HP2.out, by rw [HCE.out, itCells_snoc, List.length_append]; exact hown', by show Blk _ _ _ _; rw [HEM.out]; simpa using HX3.out, HK3.out, HG3.out⟩
      case measure => simp [intOf]; omega
    · obtain rfl : i = zs.length := by omega
      have hfin : pre = S1.pcs zs := by
        have h := HP.out
        rwa [S1.pcsFrom_end (Nat.le_refl _), List.append_nil] at h
      subst hfin
      clear hlen hlt hat
      go_wp2
      go_ret
      exact ⟨_, rfl, HROW.out, HXR.out, HKR.out, HG.out⟩
end Go.Proofs.YtlfbgaknljdanaaGreatDoor

/- out of ExE -/
namespace Go.Proofs.YtlfbgaknljdanaaGreatDoor
open Go.RowKit
open Go.Lib (hid)
set_option linter.unusedVariables false
set_option linter.unusedSimpArgs false
set_option maxRecDepth 100000

theorem pcs_isEmpty (zs : List Int) : (S1.pcs zs).isEmpty = zs.isEmpty := by
  cases zs with
  | nil => rfl
  | cons c t => rfl
theorem xTake_nil (tk : Array Value) (k f t r : Int) (nm : ByteArray) (sg : Bool) (v : Value) (w : World) (htk : tk = #[.int .i64 k, .int .i64 f, .int .i64 t, .string nm, .int .i32 r, .bool sg]) : Calls Tryz.prog 15 #[.pointer none, .agg tk, v] w fun e w' => e = .returned (.slice none 0 0) ∧ Below w.heap.size w w' := by
  subst htk
  have HB1 := hid ((Below.refl w.heap.size w).alloc (Nat.le_refl _) (.cells #[.int .i64 k, .int .i64 f, .int .i64 t, .string nm, .int .i32 r, .bool sg] 30))
  go_enter Tryz.func15, Tryz.ntmps15
  go_wp2_with fail
  go_ret
  exact ⟨rfl, HB1.out⟩
theorem NB_next2 {B g q : Nat} {k f t : Int} {nm : ByteArray} {r : Int} {sg : Bool} {w1 w2 : World} (h : NB B k f t nm r sg w1) (hg : Kept2 g q w1 w2) (h1 : B ≠ g) (h2 : B ≠ q) : NB B k f t nm r sg w2 := by
  obtain ⟨x0, x1, x2, x3, x4, x5, h7⟩ := h
  have hc : ∀ o, w2.cell? ⟨B, o, none⟩ = w1.cell? ⟨B, o, none⟩ := fun o => hg.cell (p := ⟨B, o, none⟩) h7 h1 h2
  exact ⟨(hc 0).trans x0, (hc 1).trans x1, (hc 2).trans x2, (hc 3).trans x3, (hc 4).trans x4, (hc 5).trans x5, Nat.lt_of_lt_of_le h7 hg.size⟩
theorem xset_blk {w : World} {g q : Nat} {ty2 : TypeId} {fo ch f c : Bool} (h : Blk w g ty2 (exCells q fo ch)) : Blk ((w.setCell ⟨g, 1, none⟩ (.bool f)).setCell ⟨g, 2, none⟩ (.bool c)) g ty2 (exCells q f c) := by
  have := (h.set_ 1 (.bool f)).set_ 2 (.bool c)
  simpa [exCells] using this
theorem xset_blk2 {w : World} {g q : Nat} {ty2 : TypeId} {fo ch f c : Bool} (h : Blk w g ty2 (exCells q fo ch)) : Blk ((w.setCell ⟨g, 2, none⟩ (.bool c)).setCell ⟨g, 1, none⟩ (.bool f)) g ty2 (exCells q f c) := by
  have := (h.set_ 2 (.bool c)).set_ 1 (.bool f)
  simpa [exCells] using this
theorem exTake_tag {x : Xs} {t : Tk} {zs : List Int} (hk : t.kind = 2 ∨ t.kind = 3) : exTake x t zs = (⟨(neTake x.n t.kind t.name t.single).1, x.fo || (neTake x.n t.kind t.name t.single).2.1, x.ch || (neTake x.n t.kind t.name t.single).2.2⟩, []) := by
  unfold exTake
  rw [if_pos hk]
theorem exTake_hid {x : Xs} {t : Tk} {zs : List Int} (hk : ¬ (t.kind = 2 ∨ t.kind = 3)) (hh : 0 < x.n.h) : exTake x t zs = (x, []) := by
  unfold exTake
  rw [if_neg hk, if_pos hh]
theorem exTake_text {x : Xs} {t : Tk} {zs : List Int} (hk : t.kind = 0) (hh : ¬ 0 < x.n.h) : exTake x t zs = (⟨x.n, x.fo && zs.isEmpty, x.ch && zs.isEmpty⟩, pcIts t.fr x.fo x.ch (decide (0 < x.n.b)) (decide (0 < x.n.p)) (S1.pcs zs)) := by
  unfold exTake
  rw [if_neg (by omega), if_neg hh, if_pos hk]
theorem exTake_ref {x : Xs} {t : Tk} {zs : List Int} (hk : t.kind = 1) (hh : ¬ 0 < x.n.h) : exTake x t zs = (⟨x.n, false, false⟩, [⟨t.r, t.fr, t.til - t.fr, x.fo, x.ch, decide (0 < x.n.b), decide (0 < x.n.p)⟩]) := by
  unfold exTake
  rw [if_neg (by omega), if_neg hh, if_neg (by omega), if_pos hk]
theorem exTake_other {x : Xs} {t : Tk} {zs : List Int} (hk : ¬ (t.kind = 2 ∨ t.kind = 3)) (h0 : t.kind ≠ 0) (h1 : t.kind ≠ 1) : exTake x t zs = (x, []) := by
  unfold exTake
  rw [if_neg hk, if_neg h0, if_neg h1]
  split <;> rfl
/-- What a taking leaves. -/
def XT (g q : Nat) (ty ty2 : TypeId) (w w' : World) (e : Ending) (R : Xs × List It) : Prop :=
  ∃ v, e = .returned v ∧ w'.ownsRow w.heap.size 34 7 v R.2.length (itCells R.2) ∧ Blk w' g ty2 (exCells q R.1.fo R.1.ch) ∧ Blk w' q ty R.1.n.cells ∧ Kept2 g q w w'
theorem xt_fin {g q : Nat} {ty ty2 : TypeId} {w w4 : World} {n : Ne} {fo ch : Bool} (hg : Kept2 g q w w4) (hx : Blk w4 g ty2 (exCells q fo ch)) (hk : Blk w4 q ty n.cells) (hgq : g ≠ q) (f c : Bool) :
    XT g q ty ty2 w ((w4.setCell ⟨g, 1, none⟩ (.bool f)).setCell ⟨g, 2, none⟩ (.bool c)).drew (.returned (.slice none 0 0)) (⟨n, f, c⟩, []) :=
  ⟨_, rfl, World.ownsRow_nil _ _ _ _, (xset_blk hx).drew, ((hk.far (p := ⟨g, 1, none⟩) hgq.symm (.bool f)).far (p := ⟨g, 2, none⟩) hgq.symm (.bool c)).drew,
    hg.trans ((Kept2.of_g ((grown_set w4 g 1 (.bool f)).trans (grown_set _ g 2 (.bool c)))).trans ⟨rfl, rfl, rfl, Nat.le_refl _, fun _ _ _ _ => rfl⟩)⟩
set_option maxHeartbeats 8000000 in
theorem xTake_tag (g q : Nat) (ty ty2 : TypeId) (n : Ne) (fo ch : Bool) (k : Int) (hk23 : k = 2 ∨ k = 3) (f t r : Int) (nm : ByteArray) (sg : Bool) (v : Value) (w : World) (hk : Blk w q ty n.cells) (hx : Blk w g ty2 (exCells q fo ch)) (hgq : g ≠ q) (hn : n.ok) (hnm : nm.size ≤ maxLen) (ht : TabSp w) :
    Calls Tryz.prog 15 #[.pointer (some ⟨g, 0, none⟩), .agg #[.int .i64 k, .int .i64 f, .int .i64 t, .string nm, .int .i32 r, .bool sg], v] w fun e w' => XT g q ty ty2 w w' e (⟨(neTake n k nm sg).1, fo || (neTake n k nm sg).2.1, ch || (neTake n k nm sg).2.2⟩, []) := by
  have hbx := (Below.refl w.heap.size w).alloc (Nat.le_refl _) (.cells #[.int .i64 k, .int .i64 f, .int .i64 t, .string nm, .int .i32 r, .bool sg] 30)
  have hk1 := hk.alloc (.cells #[.int .i64 k, .int .i64 f, .int .i64 t, .string nm, .int .i32 r, .bool sg] 30)
  have hx1 := hx.alloc (.cells #[.int .i64 k, .int .i64 f, .int .i64 t, .string nm, .int .i32 r, .bool sg] 30)
  have hq := Blk.new w 30 #[.int .i64 k, .int .i64 f, .int .i64 t, .string nm, .int .i32 r, .bool sg]
  have x0 := hq.cell 0
  have x1 := hq.cell 1
  have x2 := hq.cell 2
  have x3 := hq.cell 3
  have x4 := hq.cell 4
  have x5 := hq.cell 5
  have y0 := hx1.cell 0
  simp only [exCells, List.getElem?_toArray, List.getElem?_cons_zero, List.getElem?_cons_succ] at x0 x1 x2 x3 x4 x5 y0
  have HT := hid (fun W (h1 : Blk W q ty n.cells) (h2 : TabSp W) => nTake_any q ty n k f t r nm sg W h1 hn hnm h2)
  have HK1 := hid hk1
  have HX1 := hid hx1
  have HT1 := hid (ht.below hbx (Nat.le_refl _))
  have HG1 := hid (Kept2.of_below (g := g) (q := q) hbx (Nat.le_refl _))
  have HNE := hid (And.intro (show w.heap.size ≠ g from Nat.ne_of_gt hx.lt) (show w.heap.size ≠ q from Nat.ne_of_gt hk.lt))
  have HGQ := hid hgq
  have hlt := hq.lt
  have kb3 : (k == 3) = true ∨ (k == 2) = true := by rcases hk23 with rfl | rfl <;> simp
  obtain ⟨R, hR⟩ : ∃ R, R = neTake n k nm sg := ⟨_, rfl⟩
  rw [← hR]
  rw [← hR] at HT
  obtain ⟨n', f', c'⟩ := R
  simp only at HT ⊢
  clear hk hk1 hx hx1 hbx hq ht hgq hR
  rcases hk23 with rfl | rfl
  · clear kb3
    go_enter Tryz.func15, Tryz.ntmps15
    go_upto_region 4 with fail
    generalize w.alloc (.cells #[.int .i64 2, .int .i64 f, .int .i64 t, .string nm, .int .i32 r, .bool sg] 30) = w1 at *
    refine wp_region_held_drew (S := fun w' : World => w'.cell? ⟨g, 0, none⟩ = some (.pointer (some ⟨q, 0, none⟩)) ∧ w'.cell? ⟨w.heap.size, 0, none⟩ = some (.int .i64 2) ∧ w'.cell? ⟨w.heap.size, 1, none⟩ = some (.int .i64 f) ∧ w'.cell? ⟨w.heap.size, 2, none⟩ = some (.int .i64 t) ∧ w'.cell? ⟨w.heap.size, 3, none⟩ = some (.string nm) ∧ w'.cell? ⟨w.heap.size, 4, none⟩ = some (.int .i32 r) ∧ w'.cell? ⟨w.heap.size, 5, none⟩ = some (.bool sg) ∧ w.heap.size < w'.heap.size) (by kernel_rfl) ⟨y0, x0, x1, x2, x3, x4, x5, hlt⟩ (fun hHeld => ?_)
    clear x0 x1 x2 x3 x4 x5 y0
    refine wpAnyH_take (i := 0) (v := ?hv1) rfl (by kernel_rfl) (by kernel_rfl) (by kernel_rfl) (fun _ _ _ h => h) (Or.inl ⟨by rfl, ?hy1⟩) (by assumption) ?hr1
    case hy1 => (intro w hSw; (try dsimp only at hSw); go_simp; try with_reducible rfl)
    (try simp only [Act.put, List.getElem_toArray, List.getElem_cons_zero, List.setIfInBounds_toArray, List.set_cons_zero, List.set_cons_succ])
    refine wpAnyH_take (i := 1) (v := ?hv2) rfl (by kernel_rfl) (by kernel_rfl) (by kernel_rfl) (fun _ _ _ h => h) (Or.inl ⟨by rfl, ?hy2⟩) (by assumption) ?hr2
    case hy2 => (intro w hSw; (try dsimp only at hSw); go_simp; try with_reducible rfl)
    (try simp only [Act.put, List.getElem_toArray, List.getElem_cons_zero, List.getElem_cons_succ, List.setIfInBounds_toArray, List.set_cons_zero, List.set_cons_succ])
    refine wpAnyH_take (i := 2) (v := ?hv3) rfl (by kernel_rfl) (by kernel_rfl) (by kernel_rfl) (fun _ _ _ h => h) (Or.inl ⟨by rfl, ?hy3⟩) (by assumption) ?hr3
    case hy3 => (intro w hSw; (try dsimp only at hSw); go_simp; try with_reducible rfl)
    (try simp only [Act.put, List.getElem_toArray, List.getElem_cons_zero, List.getElem_cons_succ, List.setIfInBounds_toArray, List.set_cons_zero, List.set_cons_succ])
    refine wpAnyH_take (i := 3) (v := ?hv4) rfl (by kernel_rfl) (by kernel_rfl) (by kernel_rfl) (fun _ _ _ h => h) (Or.inl ⟨by rfl, ?hy4⟩) (by assumption) ?hr4
    case hy4 => (intro w hSw; (try dsimp only at hSw); go_simp; try with_reducible rfl)
    (try simp only [Act.put, List.getElem_toArray, List.getElem_cons_zero, List.getElem_cons_succ, List.setIfInBounds_toArray, List.set_cons_zero, List.set_cons_succ])
    refine wpAnyH_take (i := 4) (v := ?hv5) rfl (by kernel_rfl) (by kernel_rfl) (by kernel_rfl) (fun _ _ _ h => h) (Or.inl ⟨by rfl, ?hy5⟩) (by assumption) ?hr5
    case hy5 => (intro w hSw; (try dsimp only at hSw); go_simp; try with_reducible rfl)
    (try simp only [Act.put, List.getElem_toArray, List.getElem_cons_zero, List.getElem_cons_succ, List.setIfInBounds_toArray, List.set_cons_zero, List.set_cons_succ])
    refine wpAnyH_ready (rs := [5]) (by kernel_rfl) (by simp) ?_
    refine AllReadyH.cons rfl (fun K hK => ?_) AllReadyH.nil
    go_simp
    go_at_call 37
    refine (HT.out _ HK1.out.drew HT1.out).mono ?_
    rintro e w4 ⟨rfl, hk4, hg4⟩
    have HK4 := hid hk4
    have HX4 := hid (HX1.out.drew.grown hg4 (by have := HGQ.out; simpa using this))
    have HG4 := hid (HG1.out.trans ((⟨rfl, rfl, rfl, Nat.le_refl _, fun _ _ _ _ => rfl⟩ : Kept2 g q w1 w1.drew).trans (Kept2.of_q hg4)))
    have hS4 : w4.cell? ⟨g, 0, none⟩ = some (.pointer (some ⟨q, 0, none⟩)) ∧ w4.cell? ⟨w.heap.size, 0, none⟩ = some (.int .i64 2) ∧ w4.cell? ⟨w.heap.size, 1, none⟩ = some (.int .i64 f) ∧ w4.cell? ⟨w.heap.size, 2, none⟩ = some (.int .i64 t) ∧ w4.cell? ⟨w.heap.size, 3, none⟩ = some (.string nm) ∧ w4.cell? ⟨w.heap.size, 4, none⟩ = some (.int .i32 r) ∧ w4.cell? ⟨w.heap.size, 5, none⟩ = some (.bool sg) ∧ w.heap.size < w4.heap.size := ⟨HX4.out.cell 0, NB_next hHeld.2 HNE.out.2.symm hg4⟩
    have HS4 := hid hS4
    clear hk4 hg4 hS4
    go_wp2_with fail
    refine hK.out _ _ HS4.out (fun hHeld2 => ?_)
    clear hK K hHeld hHeld2
    refine wpAnyH_take (i := 6) (v := ?hv6) rfl (by kernel_rfl) (by kernel_rfl) (by kernel_rfl) (fun _ _ _ h => h) (Or.inl ⟨by rfl, ?hy6⟩) (by assumption) ?hr6
    case hy6 => (intro w hSw; (try dsimp only at hSw); go_simp; try with_reducible rfl)
    (try simp only [Act.put, List.getElem_toArray, List.getElem_cons_zero, List.getElem_cons_succ, List.setIfInBounds_toArray, List.set_cons_zero, List.set_cons_succ])
    refine wpAnyH_take (i := 7) (v := ?hv7) rfl (by kernel_rfl) (by kernel_rfl) (by kernel_rfl) (fun _ _ _ h => h) (Or.inl ⟨by rfl, ?hy7⟩) (by assumption) ?hr7
    case hy7 => (intro w hSw; (try dsimp only at hSw); go_simp; try with_reducible rfl)
    (try simp only [Act.put, List.getElem_toArray, List.getElem_cons_zero, List.getElem_cons_succ, List.setIfInBounds_toArray, List.set_cons_zero, List.set_cons_succ])
    refine wpAnyH_take (i := 8) (v := ?hv8) rfl (by kernel_rfl) (by kernel_rfl) (by kernel_rfl) (fun _ _ _ h => h) (Or.inl ⟨by rfl, ?hy8⟩) (by assumption) ?hr8
    case hy8 => (intro w hSw; (try dsimp only at hSw); go_simp; try with_reducible rfl)
    (try simp only [Act.put, List.getElem_toArray, List.getElem_cons_zero, List.getElem_cons_succ, List.setIfInBounds_toArray, List.set_cons_zero, List.set_cons_succ])
    refine wpAnyH_take (i := 9) (v := ?hv9) rfl (by kernel_rfl) (by kernel_rfl) (by kernel_rfl) (fun _ _ _ h => h) (Or.inl ⟨by rfl, ?hy9⟩) (by assumption) ?hr9
    case hy9 => (intro w hSw; (try dsimp only at hSw); go_simp; try with_reducible rfl)
    (try simp only [Act.put, List.getElem_toArray, List.getElem_cons_zero, List.getElem_cons_succ, List.setIfInBounds_toArray, List.set_cons_zero, List.set_cons_succ])
    refine wpAnyH_take (i := 10) (v := ?hv10) rfl (by kernel_rfl) (by kernel_rfl) (by kernel_rfl) (fun _ _ _ h => h) (Or.inl ⟨by rfl, ?hy10⟩) (by assumption) ?hr10
    case hy10 => (intro w hSw; (try dsimp only at hSw); go_simp; try with_reducible rfl)
    (try simp only [Act.put, List.getElem_toArray, List.getElem_cons_zero, List.getElem_cons_succ, List.setIfInBounds_toArray, List.set_cons_zero, List.set_cons_succ])
    refine wpAnyH_done (by kernel_rfl) ?_ _
    go_wp2_with fail
    have z1 := HX4.out.cell 1
    have z2 := HX4.out.cell 2
    simp only [exCells, List.getElem?_toArray, List.getElem?_cons_zero, List.getElem?_cons_succ] at z1 z2
    have zf := HX4.out.frozen
    have HFIN := hid (fun f c => xt_fin HG4.out HX4.out HK4.out HGQ.out f c)
    clear HX4 HS4 HX1 HK1 HT HT1 HK4
    cases fo
    · cases ch
      · go_region
        all_goals (go_wp2_with fail)
        all_goals go_ret
        all_goals exact HFIN.out f' c'
      · go_region
        all_goals (go_wp2_with fail)
        all_goals go_ret
        all_goals exact HFIN.out f' true
    · cases ch
      · go_region
        all_goals (go_wp2_with fail)
        all_goals go_ret
        all_goals exact HFIN.out true c'
      · go_region
        all_goals (go_wp2_with fail)
        all_goals go_ret
        all_goals exact HFIN.out true true
  · clear kb3
    go_enter Tryz.func15, Tryz.ntmps15
    go_upto_region 4 with fail
    generalize w.alloc (.cells #[.int .i64 3, .int .i64 f, .int .i64 t, .string nm, .int .i32 r, .bool sg] 30) = w1 at *
    refine wp_region_held_drew (S := fun w' : World => w'.cell? ⟨g, 0, none⟩ = some (.pointer (some ⟨q, 0, none⟩)) ∧ w'.cell? ⟨w.heap.size, 0, none⟩ = some (.int .i64 3) ∧ w'.cell? ⟨w.heap.size, 1, none⟩ = some (.int .i64 f) ∧ w'.cell? ⟨w.heap.size, 2, none⟩ = some (.int .i64 t) ∧ w'.cell? ⟨w.heap.size, 3, none⟩ = some (.string nm) ∧ w'.cell? ⟨w.heap.size, 4, none⟩ = some (.int .i32 r) ∧ w'.cell? ⟨w.heap.size, 5, none⟩ = some (.bool sg) ∧ w.heap.size < w'.heap.size) (by kernel_rfl) ⟨y0, x0, x1, x2, x3, x4, x5, hlt⟩ (fun hHeld => ?_)
    clear x0 x1 x2 x3 x4 x5 y0
    refine wpAnyH_take (i := 0) (v := ?hv11) rfl (by kernel_rfl) (by kernel_rfl) (by kernel_rfl) (fun _ _ _ h => h) (Or.inl ⟨by rfl, ?hy11⟩) (by assumption) ?hr11
    case hy11 => (intro w hSw; (try dsimp only at hSw); go_simp; try with_reducible rfl)
    (try simp only [Act.put, List.getElem_toArray, List.getElem_cons_zero, List.setIfInBounds_toArray, List.set_cons_zero, List.set_cons_succ])
    refine wpAnyH_take (i := 1) (v := ?hv12) rfl (by kernel_rfl) (by kernel_rfl) (by kernel_rfl) (fun _ _ _ h => h) (Or.inl ⟨by rfl, ?hy12⟩) (by assumption) ?hr12
    case hy12 => (intro w hSw; (try dsimp only at hSw); go_simp; try with_reducible rfl)
    (try simp only [Act.put, List.getElem_toArray, List.getElem_cons_zero, List.getElem_cons_succ, List.setIfInBounds_toArray, List.set_cons_zero, List.set_cons_succ])
    refine wpAnyH_take (i := 2) (v := ?hv13) rfl (by kernel_rfl) (by kernel_rfl) (by kernel_rfl) (fun _ _ _ h => h) (Or.inl ⟨by rfl, ?hy13⟩) (by assumption) ?hr13
    case hy13 => (intro w hSw; (try dsimp only at hSw); go_simp; try with_reducible rfl)
    (try simp only [Act.put, List.getElem_toArray, List.getElem_cons_zero, List.getElem_cons_succ, List.setIfInBounds_toArray, List.set_cons_zero, List.set_cons_succ])
    refine wpAnyH_take (i := 3) (v := ?hv14) rfl (by kernel_rfl) (by kernel_rfl) (by kernel_rfl) (fun _ _ _ h => h) (Or.inl ⟨by rfl, ?hy14⟩) (by assumption) ?hr14
    case hy14 => (intro w hSw; (try dsimp only at hSw); go_simp; try with_reducible rfl)
    (try simp only [Act.put, List.getElem_toArray, List.getElem_cons_zero, List.getElem_cons_succ, List.setIfInBounds_toArray, List.set_cons_zero, List.set_cons_succ])
    refine wpAnyH_take (i := 4) (v := ?hv15) rfl (by kernel_rfl) (by kernel_rfl) (by kernel_rfl) (fun _ _ _ h => h) (Or.inl ⟨by rfl, ?hy15⟩) (by assumption) ?hr15
    case hy15 => (intro w hSw; (try dsimp only at hSw); go_simp; try with_reducible rfl)
    (try simp only [Act.put, List.getElem_toArray, List.getElem_cons_zero, List.getElem_cons_succ, List.setIfInBounds_toArray, List.set_cons_zero, List.set_cons_succ])
    refine wpAnyH_ready (rs := [5]) (by kernel_rfl) (by simp) ?_
    refine AllReadyH.cons rfl (fun K hK => ?_) AllReadyH.nil
    go_simp
    go_at_call 37
    refine (HT.out _ HK1.out.drew HT1.out).mono ?_
    rintro e w4 ⟨rfl, hk4, hg4⟩
    have HK4 := hid hk4
    have HX4 := hid (HX1.out.drew.grown hg4 (by have := HGQ.out; simpa using this))
    have HG4 := hid (HG1.out.trans ((⟨rfl, rfl, rfl, Nat.le_refl _, fun _ _ _ _ => rfl⟩ : Kept2 g q w1 w1.drew).trans (Kept2.of_q hg4)))
    have hS4 : w4.cell? ⟨g, 0, none⟩ = some (.pointer (some ⟨q, 0, none⟩)) ∧ w4.cell? ⟨w.heap.size, 0, none⟩ = some (.int .i64 3) ∧ w4.cell? ⟨w.heap.size, 1, none⟩ = some (.int .i64 f) ∧ w4.cell? ⟨w.heap.size, 2, none⟩ = some (.int .i64 t) ∧ w4.cell? ⟨w.heap.size, 3, none⟩ = some (.string nm) ∧ w4.cell? ⟨w.heap.size, 4, none⟩ = some (.int .i32 r) ∧ w4.cell? ⟨w.heap.size, 5, none⟩ = some (.bool sg) ∧ w.heap.size < w4.heap.size := ⟨HX4.out.cell 0, NB_next hHeld.2 HNE.out.2.symm hg4⟩
    have HS4 := hid hS4
    clear hk4 hg4 hS4
    go_wp2_with fail
    refine hK.out _ _ HS4.out (fun hHeld2 => ?_)
    clear hK K hHeld hHeld2
    refine wpAnyH_take (i := 6) (v := ?hv16) rfl (by kernel_rfl) (by kernel_rfl) (by kernel_rfl) (fun _ _ _ h => h) (Or.inl ⟨by rfl, ?hy16⟩) (by assumption) ?hr16
    case hy16 => (intro w hSw; (try dsimp only at hSw); go_simp; try with_reducible rfl)
    (try simp only [Act.put, List.getElem_toArray, List.getElem_cons_zero, List.getElem_cons_succ, List.setIfInBounds_toArray, List.set_cons_zero, List.set_cons_succ])
    refine wpAnyH_take (i := 7) (v := ?hv17) rfl (by kernel_rfl) (by kernel_rfl) (by kernel_rfl) (fun _ _ _ h => h) (Or.inl ⟨by rfl, ?hy17⟩) (by assumption) ?hr17
    case hy17 => (intro w hSw; (try dsimp only at hSw); go_simp; try with_reducible rfl)
    (try simp only [Act.put, List.getElem_toArray, List.getElem_cons_zero, List.getElem_cons_succ, List.setIfInBounds_toArray, List.set_cons_zero, List.set_cons_succ])
    refine wpAnyH_take (i := 8) (v := ?hv18) rfl (by kernel_rfl) (by kernel_rfl) (by kernel_rfl) (fun _ _ _ h => h) (Or.inl ⟨by rfl, ?hy18⟩) (by assumption) ?hr18
    case hy18 => (intro w hSw; (try dsimp only at hSw); go_simp; try with_reducible rfl)
    (try simp only [Act.put, List.getElem_toArray, List.getElem_cons_zero, List.getElem_cons_succ, List.setIfInBounds_toArray, List.set_cons_zero, List.set_cons_succ])
    refine wpAnyH_take (i := 9) (v := ?hv19) rfl (by kernel_rfl) (by kernel_rfl) (by kernel_rfl) (fun _ _ _ h => h) (Or.inl ⟨by rfl, ?hy19⟩) (by assumption) ?hr19
    case hy19 => (intro w hSw; (try dsimp only at hSw); go_simp; try with_reducible rfl)
    (try simp only [Act.put, List.getElem_toArray, List.getElem_cons_zero, List.getElem_cons_succ, List.setIfInBounds_toArray, List.set_cons_zero, List.set_cons_succ])
    refine wpAnyH_take (i := 10) (v := ?hv20) rfl (by kernel_rfl) (by kernel_rfl) (by kernel_rfl) (fun _ _ _ h => h) (Or.inl ⟨by rfl, ?hy20⟩) (by assumption) ?hr20
    case hy20 => (intro w hSw; (try dsimp only at hSw); go_simp; try with_reducible rfl)
    (try simp only [Act.put, List.getElem_toArray, List.getElem_cons_zero, List.getElem_cons_succ, List.setIfInBounds_toArray, List.set_cons_zero, List.set_cons_succ])
    refine wpAnyH_done (by kernel_rfl) ?_ _
    go_wp2_with fail
    have z1 := HX4.out.cell 1
    have z2 := HX4.out.cell 2
    simp only [exCells, List.getElem?_toArray, List.getElem?_cons_zero, List.getElem?_cons_succ] at z1 z2
    have zf := HX4.out.frozen
    have HFIN := hid (fun f c => xt_fin HG4.out HX4.out HK4.out HGQ.out f c)
    clear HX4 HS4 HX1 HK1 HT HT1 HK4
    cases fo
    · cases ch
      · go_region
        all_goals (go_wp2_with fail)
        all_goals go_ret
        all_goals exact HFIN.out f' c'
      · go_region
        all_goals (go_wp2_with fail)
        all_goals go_ret
        all_goals exact HFIN.out f' true
    · cases ch
      · go_region
        all_goals (go_wp2_with fail)
        all_goals go_ret
        all_goals exact HFIN.out true c'
      · go_region
        all_goals (go_wp2_with fail)
        all_goals go_ret
        all_goals exact HFIN.out true true
end Go.Proofs.YtlfbgaknljdanaaGreatDoor

/- out of ExF -/
namespace Go.Proofs.YtlfbgaknljdanaaGreatDoor
open Go.RowKit
open Go.Lib (hid)
set_option linter.unusedVariables false
set_option linter.unusedSimpArgs false
set_option maxRecDepth 100000

set_option maxHeartbeats 8000000 in
/-- An extractor takes a token. -/
theorem xTake_any (g q : Nat) (ty ty2 : TypeId) (x : Xs) (t : Tk) (a : Option Addr) (cap : Nat) (zs : List Int) (w : World) (hk : Blk w q ty x.n.cells) (hx : Blk w g ty2 (exCells q x.fo x.ch)) (hgq : g ≠ q) (hn : x.n.ok) (hnm : t.name.size ≤ maxLen) (ht : TabSp w)
    (hs : S1.SB w a cap zs) (hat : t.fr + zs.length ≤ 1000000) (hft : t.fr ≤ t.til) (htil : t.til ≤ 1000000) (hag : ∀ b off, a = some ⟨b, off, none⟩ → b ≠ g) :
    Calls Tryz.prog 15 #[.pointer (some ⟨g, 0, none⟩), .agg (tkC t), .slice a zs.length cap] w fun e w' => XT g q ty ty2 w w' e (exTake x t zs) := by
  by_cases hk23 : t.kind = 2 ∨ t.kind = 3
  · have h := xTake_tag g q ty ty2 x.n x.fo x.ch t.kind hk23 t.fr t.til t.r t.name t.single (.slice a zs.length cap) w hk hx hgq hn hnm ht
    have e := exTake_tag (x := x) (zs := zs) hk23
    rw [← e] at h
    exact h
  have hbx := (Below.refl w.heap.size w).alloc (Nat.le_refl _) (.cells (tkC t) 30)
  have hk1 := hk.alloc (.cells (tkC t) 30)
  have hx1 := hx.alloc (.cells (tkC t) 30)
  have hq := Blk.new w 30 (tkC t)
  have hs1 := sb_grown hs (grown_of_below hbx (some g)) hag
  have HH := hid (exTake_hid (x := x) (t := t) (zs := zs) hk23)
  have HX0 := hid (exTake_text (x := x) (t := t) (zs := zs))
  have HX1 := hid (exTake_ref (x := x) (t := t) (zs := zs))
  have HXO := hid (exTake_other (x := x) (t := t) (zs := zs) hk23)
  have HTX := hid (fun W (h1 : Blk W q ty x.n.cells) (h2 : Blk W g ty2 (exCells q x.fo x.ch)) (h3 : S1.SB W a cap zs) => xtext_any g q ty ty2 x.n x.fo x.ch t.fr a cap zs W h1 h2 hgq h3 hat hag)
  have HIT := hid (fun W (h1 : Blk W q ty x.n.cells) (h2 : Blk W g ty2 (exCells q x.fo x.ch)) => item_any g q ty ty2 x.n x.fo x.ch t.r t.fr ((t.til - t.fr : Nat) : Int) W h1 h2 hgq)
  have HHD := hid (fun W (h1 : Blk W q ty x.n.cells) => nHidden_any q ty x.n W h1)
  obtain ⟨kd, fr, til, nm, r, sg⟩ := t
  simp only [tkC] at hbx hk1 hx1 hq hs1 ⊢
  simp only at HH HX0 HX1 HXO HTX HIT hft htil hat hk23 hnm
  have x0 := hq.cell 0
  have x1 := hq.cell 1
  have x2 := hq.cell 2
  have x3 := hq.cell 3
  have x4 := hq.cell 4
  have x5 := hq.cell 5
  have y0 := hx1.cell 0
  simp only [exCells, List.getElem?_toArray, List.getElem?_cons_zero, List.getElem?_cons_succ] at x0 x1 x2 x3 x4 x5 y0
  have HK1 := hid hk1
  have HEX := hid hx1
  have HS1 := hid hs1
  have HB1 := hid hbx
  have HG1 := hid (Kept2.of_below (g := g) (q := q) hbx (Nat.le_refl _))
  have hkn2 : (kd == 2) = false := by simp; omega
  have hkn3 : (kd == 3) = false := by simp; omega
  have hsub : (til : Int) - (fr : Int) = ((til - fr : Nat) : Int) := by omega
  have hsz : ((til - fr : Nat) : Int) ≤ 1000000 := by omega
  generalize til - fr = sz at *
  obtain ⟨n, fo, ch⟩ := x
  simp only at HH HX0 HX1 HXO HTX HIT HHD hk1 hx1 y0
  clear hk hk1 hx hx1 hbx hq ht hgq hs hs1 hat hag hn hnm hft
  generalize hR : exTake ⟨n, fo, ch⟩ ⟨kd, fr, til, nm, r, sg⟩ zs = R at HH HX0 HX1 HXO ⊢
  clear hR
  go_enter Tryz.func15, Tryz.ntmps15
  go_wp2_with fail
  generalize w.alloc (.cells #[.int .i64 kd, .int .i64 fr, .int .i64 til, .string nm, .int .i32 r, .bool sg] 30) = w1 at *
  refine (HHD.out _ HK1.out).mono ?_
  rintro e w2 ⟨rfl, hw2⟩
  obtain rfl : w1 = w2 := hw2.symm
  by_cases hh : 0 < n.h
  · have HE := hid (HH.out hh)
    clear HH HX0 HX1 HXO HTX HIT
    go_wp2_with fail
    go_ret
    rw [HE.out]
    exact ⟨_, rfl, World.ownsRow_nil _ _ _ _, HEX.out, HK1.out, HG1.out⟩
  by_cases h0 : kd = 0
  · subst h0
    have HE := hid (HX0.out rfl (by omega))
    clear HH HX0 HX1 HXO HIT
    go_wp2_with fail
    refine (HTX.out _ HK1.out HEX.out HS1.out).mono ?_
    rintro e w3 ⟨v, rfl, hr3, hx3, hk3, hg3⟩
    have HR3 := hid hr3
    have HX3 := hid hx3
    have HK3 := hid hk3
    have HG3 := hid (HG1.out.trans (Kept2.of_g hg3))
    clear hr3 hx3 hk3 hg3
    go_wp2_with fail
    go_ret
    rw [HE.out]
    refine ⟨_, rfl, owns_base ?_ HB1.out.size, ?_, HK3.out, HG3.out⟩
    · rw [pcIts_len]; exact HR3.out
    · rw [← pcs_isEmpty]; exact HX3.out
  have h0b : (kd == 0) = false := by simpa using h0
  by_cases h1 : kd = 1
  · subst h1
    have HE := hid (HX1.out rfl (by omega))
    clear HH HX0 HX1 HXO HTX
    go_wp2_with fail
    refine (HIT.out _ HK1.out HEX.out).mono ?_
    rintro e w3 ⟨rfl, hx3, hk3, hg3⟩
    have HX3 := hid (fun o => hx3.alloc o)
    have HK3 := hid (fun o => hk3.alloc o)
    have HG3 := hid (fun o => HG1.out.trans (Kept2.of_g (hg3.trans (World.grownBy_alloc w3 o (some g)))))
    have HRW := hid (World.ownsRow_lit (base := w.heap.size) (e := 34) (size := 7) w3 #[.int .i32 r, .int .i64 fr, .int .i64 sz, .bool fo, .bool ch, .bool (decide (0 < n.b)), .bool (decide (0 < n.p))] 1 (Nat.le_trans HB1.out.size hg3.size) (by unfold maxLen; omega) rfl)
    clear hx3 hk3 hg3
    go_wp2_with fail
    go_ret
    rw [HE.out]
    exact ⟨_, rfl, HRW.out, HX3.out _, HK3.out _, HG3.out _⟩
  · have h1b : (kd == 1) = false := by simpa using h1
    have HE := hid (HXO.out h0 h1)
    clear HH HX0 HX1 HXO HTX HIT
    go_wp2_with fail
    go_ret
    rw [HE.out]
    exact ⟨_, rfl, World.ownsRow_nil _ _ _ _, HEX.out, HK1.out, HG1.out⟩
end Go.Proofs.YtlfbgaknljdanaaGreatDoor
