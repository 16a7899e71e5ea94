/- Chapter 23: all old blocks but two are kept: of no program. -/
import Derived.Test.YtlfbgaknljdanaaGreatDoorExP
namespace Go.Proofs.YtlfbgaknljdanaaGreatDoor
open Go.RowKit
set_option linter.unusedVariables false

/-- All old blocks but two are as they were. -/
structure Kept2 (g q : Nat) (w w' : World) : Prop where
  os : w'.os = w.os
  tape : w'.tape = w.tape
  output : w'.output = w.output
  size : w.heap.size ≤ w'.heap.size
  block : ∀ k, k < w.heap.size → k ≠ g → k ≠ q → w'.heap[k]? = w.heap[k]?
theorem Kept2.refl (g q : Nat) (w : World) : Kept2 g q w w := ⟨rfl, rfl, rfl, Nat.le_refl _, fun _ _ _ _ => rfl⟩
theorem Kept2.trans {g q : Nat} {a b c : World} (h : Kept2 g q a b) (k : Kept2 g q b c) : Kept2 g q a c :=
  ⟨k.os.trans h.os, k.tape.trans h.tape, k.output.trans h.output, Nat.le_trans h.size k.size, fun i hi h1 h2 => (k.block i (Nat.lt_of_lt_of_le hi h.size) h1 h2).trans (h.block i hi h1 h2)⟩
theorem Kept2.of_g {g q : Nat} {w w' : World} (h : w.grownBy w' (some g)) : Kept2 g q w w' :=
  ⟨h.os, h.tape, h.output, h.size, fun k hk h1 _ => h.block k hk (fun e => h1 (by injection e))⟩
theorem Kept2.of_q {g q : Nat} {w w' : World} (h : w.grownBy w' (some q)) : Kept2 g q w w' :=
  ⟨h.os, h.tape, h.output, h.size, fun k hk _ h2 => h.block k hk (fun e => h2 (by injection e))⟩
theorem Kept2.of_below {g q B : Nat} {w w' : World} (h : Below B w w') (hB : w.heap.size ≤ B) : Kept2 g q w w' := ⟨h.os, h.tape, h.output, h.size, fun k hk _ _ => h.block k (Nat.lt_of_lt_of_le hk hB)⟩
theorem Kept2.below {g q B : Nat} {w w' : World} (h : Kept2 g q w w') (hB : B ≤ w.heap.size) (hg : B ≤ g) (hq : B ≤ q) : Below B w w' :=
  ⟨h.os, h.tape, h.output, h.size, fun k hk => h.block k (by omega) (by omega) (by omega)⟩
/-- A row that lies behind the two. -/
theorem Kept2.own {g q B : Nat} {w w' : World} (h : Kept2 g q w w') {e : TypeId} {k n : Nat} {v : Value} {xs : List Value} (ho : w.ownsRow B e k v n xs) (hg : g < B) (hq : q < B) : w'.ownsRow B e k v n xs := by
  refine ⟨ho.1, ?_⟩
  rcases ho.2 with hn | ⟨b, cap, cur, rfl, hb, hgg, rest⟩
  · exact .inl hn
  · exact .inr ⟨b, cap, cur, rfl, hb, (h.block b (Array.getElem?_eq_some_iff.1 hgg).1 (by omega) (by omega)).trans hgg, rest⟩
theorem Kept2.blk {g q b : Nat} {w w' : World} {t : TypeId} {cs : Array Value} (h : Kept2 g q w w') (hk : Blk w b t cs) (h1 : b ≠ g) (h2 : b ≠ q) : Blk w' b t cs := (h.block b hk.lt h1 h2).trans hk
theorem Kept2.cell {g q : Nat} {w w' : World} (h : Kept2 g q w w') {p : Addr} (hp : p.block < w.heap.size) (h1 : p.block ≠ g) (h2 : p.block ≠ q) : w'.cell? p = w.cell? p := World.cell?_of_block (h.block p.block hp h1 h2)
theorem Kept2.grown {g q : Nat} {w w5 w6 : World} {row : Option Nat} (h : Kept2 g q w w5) (hg : w5.grownBy w6 row) (hr : ∀ j, row = some j → w.heap.size ≤ j) : Kept2 g q w w6 :=
  ⟨hg.os.trans h.os, hg.tape.trans h.tape, hg.output.trans h.output, Nat.le_trans h.size hg.size, fun k hk h1 h2 => (hg.block k (Nat.lt_of_lt_of_le hk h.size) (fun e => by have := hr k e.symm; omega)).trans (h.block k hk h1 h2)⟩
/-- A slice of the bytes. -/
theorem ba_seg {w : World} {b off n cap : Nat} {s : ByteArray} {i e : Nat} (hz : Lib.Bytes w b off s) (hb : b < w.heap.size) (hn : n = s.size) (hc : n ≤ cap) (hm : cap ≤ 9223372036854775807) (h1 : i ≤ e) (h2 : e ≤ n) : BA w (some ⟨b, off + i, none⟩) (e - i) (cap - i) (s.extract i e) := by
  refine ⟨by rw [ByteArray.size_extract]; omega, by omega, by omega, fun _ => ⟨b, off + i, rfl, hb, ?_⟩⟩
  apply bytes_of_byt
  intro k hk
  rw [ByteArray.size_extract] at hk
  rw [byt_extract s i e k (by omega) (by omega), Nat.add_assoc, bytes_cell hz (i := i + k) (by omega)]
theorem sb_of_ba {w : World} {a : Option Addr} {n cap : Nat} {s : ByteArray} (h : BA w a n cap s) : S1.SB w a cap (intsOf s) ∧ n = (intsOf s).length := by
  have hl := intsOf_len s
  refine ⟨⟨by rw [hl, ← h.1]; exact h.2.1, h.2.2.1, ?_, ?_⟩, by rw [hl, h.1]⟩
  · intro y hy
    have := intsOf_rng s y hy
    omega
  · by_cases h0 : 0 < n
    · obtain ⟨b, off, e, hb, hz⟩ := h.2.2.2 h0
      refine .inr ⟨b, off, e, hb, fun k hk => ?_⟩
      rw [intsOf_get]
      exact bytes_cell hz (by rw [hl] at hk; exact hk)
    · exact .inl (List.eq_nil_of_length_eq_zero (by rw [hl, ← h.1]; omega))
end Go.Proofs.YtlfbgaknljdanaaGreatDoor
