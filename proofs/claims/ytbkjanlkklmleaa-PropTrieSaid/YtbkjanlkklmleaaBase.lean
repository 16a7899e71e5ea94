/- Laws of my own on the walk, of no program: a run of 'build' operations, reckoned by the kernel. -/
import Derived.WalkKit
import Derived.WalkSpells
import Derived.WalkLawsBesides
import Derived.Lib.Hide
import Derived.Below
import Derived.Deep.QuietTactic
import Derived.BigQuiet
import Derived.Deep.DeepFit
import Derived.Deep.RegionWith
import Derived.Deep.RegionHeld3
import Derived.Deep.RegionLaw
import Derived.Laws.Tables
import Derived.Laws.Rows
import Derived.KernelRfl
import Derived.Lib.Strings
import Derived.Outline
import Derived.Great.Walk
namespace Go.Proofs.Ytbkjanlkklmleaa
open Go.RowKit
open Go.Lib

/-- The frame behind a run of operations that only build aggregates. -/
def builds (P : Program) : List Oper → Act → Option Act
  | [], a => some a
  | o :: r, a =>
    match o.guard, o.op with
    | none, .build t parts => match P.built t (parts.map fun (i, x) => (i, a.eval x)).toList with
      | some cs => builds P r (a.put o.dst (.agg cs))
      | none => none
    | _, _ => none

theorem wpList_builds {P : Program} {ops : Array Oper} {w : World} {Q : Exit → Act → World → Prop} (rest : List Oper) :
    ∀ (l : List Oper) (a a' : Act), builds P l a = some a' → wpList P ops Q rest a' w → wpList P ops Q (l ++ rest) a w
  | [], a, a', h, hr => by
    simp only [builds, Option.some.injEq] at h
    subst h
    exact hr
  | o :: r, a, a', h, hr => by
    simp only [builds] at h
    split at h
    case h_2 => cases h
    rename_i t parts hg ho
    split at h
    case h_2 => cases h
    rename_i cs hc
    exact wpList_build hg t parts ho (by rw [hc]; rfl) (by rw [hc]; exact wpList_builds rest r _ a' h hr)

theorem wpList_buildsN {P : Program} {ops : Array Oper} {w : World} {Q : Exit → Act → World → Prop} (n : Nat) (l : List Oper) (a a' : Act)
    (h : builds P (l.take n) a = some a') (hr : wpList P ops Q (l.drop n) a' w) : wpList P ops Q l a w := by
  have := wpList_builds (P := P) (ops := ops) (w := w) (Q := Q) (l.drop n) (l.take n) a a' h hr
  rwa [List.take_append_drop] at this

theorem dest_of {P : Program} {l : List Oper} {a : Act} {x : Operand} {y : Operand} {u v : Value} (h : (builds P l a).map (fun a' => (a'.eval x, a'.eval y, a'.defers)) = some (u, v, [])) :
    ∃ a', builds P l a = some a' ∧ a'.eval x = u ∧ a'.eval y = v ∧ a'.defers = [] := by
  cases hb : builds P l a with
  | none => rw [hb] at h; cases h
  | some a' =>
    rw [hb] at h
    simp only [Option.map_some, Option.some.injEq, Prod.mk.injEq] at h
    exact ⟨a', rfl, h.1, h.2.1, h.2.2⟩

/-- A TABLE OF LITERALS: a run of builds, then one store of the whole into block g, which is new. -/
theorem wpList_table {P : Program} {ops : Array Oper} {w : World} {Q : Exit → Act → World → Prop} (n : Nat) (l : List Oper) (a : Act) (ty : TypeId) (x y : Operand) (g : Nat) (cells : Array Value)
    (hb : (builds P (l.take n) a).map (fun a' => (a'.eval x, a'.eval y, a'.defers)) = some (.pointer (some ⟨g, 0, none⟩), .agg cells, []))
    (hs : (l.drop n).map (fun o => (o.guard, o.dst, o.op)) = [(none, none, .store ty x y)])
    (t : TypeId) (old : Array Value) (hg : w.heap[g]? = some (.cells old t (0, 0))) (hi : (P.info? ty).map (·.size) = some cells.size)
    (hold : old.size = cells.size) (h1 : cells.all (·.oneCell') = true)
    (h : ∀ a', a'.defers = [] → a'.eval x = .pointer (some ⟨g, 0, none⟩) → Q .normal a' (w.setRow g cells)) : wpList P ops Q l a w := by
  obtain ⟨a', h0, hx, hy, hd⟩ := dest_of hb
  refine wpList_buildsN n l a a' h0 ?_
  match hl : l.drop n with
  | [] => rw [hl] at hs; simp at hs
  | o :: r =>
    rw [hl] at hs
    simp only [List.map_cons, List.cons.injEq, Prod.mk.injEq, List.map_eq_nil_iff] at hs
    obtain ⟨⟨e1, e2, e3⟩, rfl⟩ := hs
    refine wpList_store_row e1 ty x y e3 g cells hx hy t old hg hi hold h1 ?_
    rw [e2]
    exact wpList_nil (h a' hd hx)

/-- A new block of a type whose zero is great: what it holds is a name; that it is so is one closed fact. -/
theorem wpList_allocZ {P : Program} {ops : Array Oper} {rest : List Oper} {a : Act} {w : World} {Q : Exit → Act → World → Prop} (d : Tmp) (ty t' : TypeId) {pos : String} {after : Array Edge} (cs : Array Value) (el : TypeId)
    (hz : ∀ w, (Instr.alloc ty true (.tuple #[])).run P w = .ok (.pointer (some ⟨w.heap.size, 0, none⟩)) (w.alloc (.cells cs el)))
    (h : wpList P ops Q rest (a.put (some d) (.pointer (some ⟨w.heap.size, 0, none⟩))) (w.alloc (.cells cs el))) : wpList P ops Q (⟨some d, .alloc ty, t', pos, after, none⟩ :: rest) a w := by
  refine Great.wpList_runTo rfl (some d) rfl _ _ ?_ h
  simp [execOp, hz]

/-- 'a[i]' of an array by value, of elements of one cell. -/
theorem run_index_arr {P : Program} (t e : TypeId) (n : Nat) (d : TypeDesc) (cs : Array Value) (k : IntKind) (i : Int) (v : Value) (w : World) (h : P.underlying t = some (.array n e)) (hd : P.underlying e = some d)
    (hp : (match d with | .struct _ | .array _ _ => true | _ => false) = false) (hs : (P.info? e).map (·.size) = some 1) (h0 : 0 ≤ i) (h1 : i < n) (hv : cs[i.toNat]? = some v) :
    (Instr.index t (.agg cs) (.int k i)).run P w = .ok v w := by
  cases hq : P.info? e with
  | none => simp [hq] at hs
  | some inf =>
    have hsz : inf.size = 1 := by simpa [hq] using hs
    have hagg : (isAgg e).run P w = .ok false w := by
      unfold isAgg
      rw [Sem.run_bind, run_underlying hd w]
      cases d <;> simp_all
    simp [Instr.index, run_underlying h, asIntOf, h0, h1, part, hagg, sizeOf, typeInfo, hq, hsz, hv]

theorem str_toList_inj {a b : ByteArray} : a.toList = b.toList ↔ a = b := by
  constructor
  · intro h
    rw [Lib.toList_data, Lib.toList_data] at h
    exact ByteArray.ext (Array.toList_inj.mp h)
  · intro h; rw [h]
/-- '==' of texts as the walk spells it. -/
theorem str_ne {a b : ByteArray} (h : a ≠ b) : (a.toList == b.toList) = false := by
  rw [beq_eq_false_iff_ne]
  exact fun e => h (str_toList_inj.1 e)
theorem str_beq (a b : ByteArray) : (a.toList == b.toList) = decide (a = b) := by
  by_cases h : a = b
  · subst h; simp
  · rw [str_ne h]; simp [h]

/-- Old cells and marks, below what has been laid. -/
theorem bcell {W w1 : World} {B : Nat} (hb : Below B W w1) : (∀ b o, b < B → w1.cell? ⟨b, o, none⟩ = W.cell? ⟨b, o, none⟩) ∧ (∀ b o, b < B → w1.frozen? ⟨b, o, none⟩ = W.frozen? ⟨b, o, none⟩) :=
  ⟨fun b o h => hb.cell (p := ⟨b, o, none⟩) h, fun b o h => hb.frozen (p := ⟨b, o, none⟩) h⟩

theorem below_drewN (B : Nat) (w : World) (n : Nat) : Below B w (w.drewN n) := ⟨rfl, rfl, rfl, Nat.le_refl _, fun _ _ => rfl⟩

theorem ret_int {k : IntKind} {a b : Int} (h : a = b) : Ending.returned (.int k a) = .returned (.int k b) := by rw [h]
theorem ret_bool {a b : Bool} (h : a = b) : Ending.returned (.bool a) = .returned (.bool b) := by rw [h]
end Go.Proofs.Ytbkjanlkklmleaa
