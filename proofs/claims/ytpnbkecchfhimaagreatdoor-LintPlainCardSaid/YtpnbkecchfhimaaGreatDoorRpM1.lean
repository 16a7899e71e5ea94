/- Texts of RpA, RpB, RpC, merged by a program of mine. -/
import Derived.Test.YtpnbkecchfhimaaGreatDoorByt
import Derived.Tactics
import Derived.Tactics2
import Derived.Defers
import Derived.Laws.Pointers
import Derived.Laws.LoneSync
import Derived.RegionTactic
import Derived.RegionCalls
import Derived.ChangeAlike
import Derived.Test.YtpnbkecchfhimaaGreatDoorWords
import Derived.Test.YtpnbkecchfhimaaGreatDoorMTg1
import Derived.Test.YtpnbkecchfhimaaGreatDoorMEn1

/- out of RpA -/
namespace Go.Proofs.YtpnbkecchfhimaaGreatDoor
open Go.RowKit
set_option linter.unusedVariables false
set_option maxRecDepth 100000

theorem syDisable (w : World) : (callFunc 222 #[]).run Tryz.prog w = .ok (.value (.tuple #[])) w := run_call_mark0 Tryz.func222 (by kernel_rfl) (by kernel_rfl) (by kernel_rfl) .disable (by kernel_rfl) w
theorem syEnable (w : World) : (callFunc 224 #[]).run Tryz.prog w = .ok (.value (.tuple #[])) w := run_call_mark0 Tryz.func224 (by kernel_rfl) (by kernel_rfl) (by kernel_rfl) .enable (by kernel_rfl) w
theorem syAcquire (a : Addr) (w : World) : (callFunc 225 #[.pointer (some a)]).run Tryz.prog w = .ok (.value (.tuple #[])) w := run_call_marked Tryz.func225 (by kernel_rfl) (by kernel_rfl) (by kernel_rfl) .acquire (by kernel_rfl) a w
theorem syMerge (a : Addr) (w : World) : (callFunc 227 #[.pointer (some a)]).run Tryz.prog w = .ok (.value (.tuple #[])) w := run_call_marked Tryz.func227 (by kernel_rfl) (by kernel_rfl) (by kernel_rfl) .releaseMerge (by kernel_rfl) a w

/-- '(*sync/atomic.Bool).Store(true)', entered as a deferred call: the cell holds 1. -/
theorem syStore (a : Addr) (x : Value) (u : FrameMode) (w : World) (hc : w.cell? a = some x) (hz : w.frozen? a = false) :
    CallsD Tryz.prog 159 #[.pointer (some a), .bool true] u w fun e u' w' => u' = u ∧ (e = .returned (.tuple #[]) ∧ w' = w.drew.setCell a (.int .u32 1)) := by
  have hc' : w.drew.cell? a = some x := by go_simp
  have hz' : w.drew.frozen? a = false := by go_simp
  have hst := run_call_store (P := Tryz.prog) Tryz.func201 (by kernel_rfl) (by kernel_rfl) (by kernel_rfl) (by kernel_rfl) (k := .u32) (y := 1) hc' hz'
  go_enter_d Tryz.func159, Tryz.ntmps159
  go_wp2
  go_region_calls
  all_goals (go_end0; exact ⟨rfl, rfl⟩)

/-- '(*internal/sync.Mutex).Unlock', the lock held and nobody waiting (state 1): state 0. -/
theorem syUnlock1 (a : Addr) (w : World) (hc : w.cell? a = some (.int .i32 1)) (hz : w.frozen? a = false) :
    Calls Tryz.prog 200 #[.pointer (some a)] w fun e w' => e = .returned (.tuple #[]) ∧ w' = w.setCell a (.int .i32 0) := by
  have hd := syDisable
  have he := syEnable
  have hr := syMerge
  have hadd := run_call_add (P := Tryz.prog) Tryz.func228 (by kernel_rfl) (by kernel_rfl) (by kernel_rfl) .i32 (by kernel_rfl) (y := -1) (s := 0) hc hz (by simp [go_sem]; rfl)
  have hcv := run_convert_to_unsafe (P := Tryz.prog) (src := 310) (dst := 300) Tryz.underlying310 Tryz.underlying300 (by kernel_rfl) hc
  go_enter Tryz.func200, Tryz.ntmps200
  go_wp2
  go_end0
  exact ⟨rfl, rfl⟩
/-- '(*sync.Mutex).Unlock', entered as a deferred call. -/
theorem syUnlock (a : Addr) (u : FrameMode) (w : World) (hc : w.cell? a = some (.int .i32 1)) (hz : w.frozen? a = false) :
    CallsD Tryz.prog 158 #[.pointer (some a)] u w fun e u' w' => u' = u ∧ (e = .returned (.tuple #[]) ∧ w' = w.setCell a (.int .i32 0)) := by
  have hd := syDisable
  have he := syEnable
  have hr := syMerge
  have hadd := run_call_add (P := Tryz.prog) Tryz.func228 (by kernel_rfl) (by kernel_rfl) (by kernel_rfl) .i32 (by kernel_rfl) (y := -1) (s := 0) hc hz (by simp [go_sem]; rfl)
  have hcv := run_convert_to_unsafe (P := Tryz.prog) (src := 310) (dst := 300) Tryz.underlying310 Tryz.underlying300 (by kernel_rfl) hc
  go_enter_d Tryz.func158, Tryz.ntmps158
  go_wp2
  go_end0
  go_wp2
  go_end0
  exact ⟨rfl, rfl⟩
/-- '(*sync.Mutex).Lock', the lock free (state 0): state 1. -/
theorem syLock (a : Addr) (w : World) (hc : w.cell? a = some (.int .i32 0)) (hz : w.frozen? a = false) :
    Calls Tryz.prog 157 #[.pointer (some a)] w fun e w' => e = .returned (.tuple #[]) ∧ w' = w.setCell a (.int .i32 1) := by
  have hd := syDisable
  have he := syEnable
  have ha := syAcquire
  have hcas := run_call_cas_hit (P := Tryz.prog) Tryz.func223 (by kernel_rfl) (by kernel_rfl) (by kernel_rfl) .i32 (by kernel_rfl) (y := 1) hc hz
  have hc' : (w.setCell a (.int .i32 1)).cell? a = some (.int .i32 1) := World.cell?_setCell_same w a _ hc
  have hcv := run_convert_to_unsafe (P := Tryz.prog) (src := 310) (dst := 300) Tryz.underlying310 Tryz.underlying300 (by kernel_rfl) hc'
  go_enter Tryz.func157, Tryz.ntmps157
  go_wp2
  first | go_end0 | (simp only [Exit.inBlock, Exit.then]; refine bodyPost_ret (results_none rfl _ _ _) rfl ?_) | refine bodyPost_ret (results_none rfl _ _ _) rfl ?_
  go_wp2
  go_end0
  exact ⟨rfl, rfl⟩
/-- '(*sync/atomic.Bool).Load'. -/
theorem syLoad (a : Addr) (d : Int) (w : World) (h0 : w.cell? a = some (.int .u32 d)) :
    Calls Tryz.prog 114 #[.pointer (some a)] w fun e w' => e = .returned (.bool (d != 0)) ∧ w' = w := by
  have hl := run_call_load (P := Tryz.prog) Tryz.func156 (by kernel_rfl) (by kernel_rfl) (by kernel_rfl) .u32 (by kernel_rfl) h0
  go_enter Tryz.func114, Tryz.ntmps114
  go_wp2
  go_ret
  exact ⟨rfl, rfl⟩
end Go.Proofs.YtpnbkecchfhimaaGreatDoor

/- out of RpB -/
namespace Go.Proofs.YtpnbkecchfhimaaGreatDoor
open Go.RowKit
open Go.Lib (hid)
set_option linter.unusedVariables false
set_option linter.unusedSimpArgs false
set_option maxRecDepth 100000

theorem below_grown_none {w w' : World} (h : w.grownBy w' none) : Below w.heap.size w w' := ⟨h.os, h.tape, h.output, h.size, fun k hk => h.block k hk (by simp)⟩
def rpL : List Value := [.string ⟨#[38]⟩, .string ⟨#[38, 97, 109, 112, 59]⟩, .string ⟨#[60]⟩, .string ⟨#[38, 108, 116, 59]⟩, .string ⟨#[62]⟩, .string ⟨#[38, 103, 116, 59]⟩]
def NewRp (w : World) (e : Ending) (w' : World) : Prop := ∃ q v, e = .returned (.pointer (some ⟨q, 0, none⟩)) ∧ w.heap.size ≤ q ∧ Blk w' q 147 #[.int .u32 0, .int .i32 0, .int .u32 0, .nilIface, v] ∧ w'.ownsRow w.heap.size 9 1 v 6 rpL ∧ Below w.heap.size w w'
set_option maxHeartbeats 2000000 in
theorem newRp_any (b : Nat) (w : World) (hb : Blk w b 9 rpL.toArray) :
    Calls Tryz.prog 53 #[.slice (some ⟨b, 0, none⟩) 6 6] w fun e w' => NewRp w e w' := by
  obtain ⟨i0, hi, hz0, hz1, hz2⟩ := info_parts info_str
  have hrd : Reads w w.heap.size 1 (some ⟨b, 0, none⟩) 6 rpL := ⟨rfl, fun _ => ⟨_, rfl, hb.lt, fun j u hu => by
    have e : (Addr.add ⟨b, 0, none⟩ j) = ⟨b, j, none⟩ := by unfold Addr.add; split <;> simp_all
    rw [e, hb.cell j]
    simpa using hu⟩⟩
  have HRD := hid hrd
  clear hb hrd
  go_enter Tryz.func53, Tryz.ntmps53
  go_wp2_with (at_builtin; go_must (refine wpList_append_any _ rfl (.const (.slice none 0 0)) (.tmp 8) 95 rfl w.heap.size 9 i0 (.string ⟨#[]⟩) 1 16 Tryz.underlying95 hi hz0 hz1 hz2 rfl (by decide) _ 0 [] rfl (World.ownsRow_nil _ _ _ _) _ _ 6 6 rpL rfl HRD.out (by simp [rpL, Value.oneCell']) (by unfold maxLen; omega) (by omega) (by omega) ?_); intro v7 w7 ho7 hg7 hv7; obtain ⟨A7, c7, rfl⟩ := owns_slice ho7; have HO7 := hid ho7; have HG7 := hid hg7; clear ho7 hg7 hv7)
  go_ret
  have hb7 : Below w.heap.size w w7 := below_grown_none HG7.out
  refine ⟨w7.heap.size, _, rfl, hb7.size, Blk.new _ _ _, ?_, hb7.alloc hb7.size _⟩
  exact HO7.out.alloc _
end Go.Proofs.YtpnbkecchfhimaaGreatDoor

/- out of RpC -/
namespace Go.Proofs.YtpnbkecchfhimaaGreatDoor
open Go.RowKit
open Go.Lib (hid)
set_option linter.unusedVariables false
set_option linter.unusedSimpArgs false
set_option maxRecDepth 100000

def ampR : ByteArray := ⟨#[38, 97, 109, 112, 59]⟩
def ltR : ByteArray := ⟨#[38, 108, 116, 59]⟩
def gtR : ByteArray := ⟨#[38, 103, 116, 59]⟩
/-- A row of the six texts stands. -/
def Six (w : World) (r : Nat) : Prop := r < w.heap.size ∧ ∀ j, j < 6 → w.cell? ⟨r, j, none⟩ = rpL[j]?
theorem Six.below {w w' : World} {r : Nat} (h : Six w r) (hb : Below w.heap.size w w') : Six w' r := ⟨Nat.lt_of_lt_of_le h.1 hb.size, fun j hj => (hb.cell (p := ⟨r, j, none⟩) h.1).trans (h.2 j hj)⟩
theorem zc_size : Tryz.zeroCells249.size = 257 := by kernel_rfl
theorem zc_info : (Tryz.prog.info? 249).map (·.size) = some 257 := by kernel_rfl
theorem zc_all : Tryz.zeroCells249.all (·.oneCell') = true := by kernel_rfl
theorem zc_one (A : Option Addr) (n c : Nat) : (Tryz.zeroCells249.setIfInBounds 256 (.slice A n c)).all (·.oneCell') = true := by
  rw [Array.all_eq_true]
  intro i hi
  rw [Array.getElem_setIfInBounds]
  split
  · rfl
  · exact Array.all_eq_true.1 zc_all i (by simpa using hi)
/-- A table of replacements under way: its block g, what it holds for each byte, its row of texts. -/
structure RpS (W0 W : World) (B g : Nat) (f : Nat → Value) (vT : Value) (n : Nat) (ts : List Value) : Prop where
  gB : B ≤ g
  gl : g < W.heap.size
  c : ∀ j, j < 256 → W.cell? ⟨g, j, none⟩ = some (f j)
  cT : W.cell? ⟨g, 256, none⟩ = some vT
  fz : ∀ j, W.frozen? ⟨g, j, none⟩ = false
  row : W.ownsRow B 9 1 vT n ts
  rg : vT.ownBlock ≠ some g
  bel : Below B W0 W
def nilR : Nat → Value := fun _ => .slice none 0 0
def updR (f : Nat → Value) (k : Nat) (v : Value) : Nat → Value := fun j => if j = k then v else f j
theorem zc_cell (v : Value) (j : Nat) (h : j < 256) : (Tryz.zeroCells249.setIfInBounds 256 v)[j]? = some (.slice none 0 0) := by
  rw [Array.getElem?_setIfInBounds_ne (by omega)]
  have hall : (List.range 256).all (fun j => (Tryz.zeroCells249[j]?).map (fun x => match x with | .slice none 0 0 => true | _ => false) == some true) = true := by kernel_rfl
  have h1 := List.all_eq_true.1 hall j (List.mem_range.2 h)
  have h2 : (Tryz.zeroCells249[j]?).map (fun x => match x with | .slice none 0 0 => true | _ => false) = some true := by simpa using h1
  rw [Option.map_eq_some_iff] at h2
  obtain ⟨x, hx, hm⟩ := h2
  rw [hx]
  split at hm
  · rfl
  · cases hm
theorem RpS.start {W0 w7 : World} {B r0 : Nat} (hb : Below B W0 w7) (hB : B ≤ w7.heap.size) (hr : w7.ownsRow B 9 1 (.slice (some ⟨r0, 0, none⟩) 0 3) 0 []) :
    RpS W0 ((w7.alloc (.cells Tryz.zeroCells249 249)).setRow w7.heap.size (Tryz.zeroCells249.setIfInBounds 256 (.slice (some ⟨r0, 0, none⟩) 0 3))) B w7.heap.size nilR (.slice (some ⟨r0, 0, none⟩) 0 3) 0 [] := by
  have hn := heap_alloc_new w7 (.cells Tryz.zeroCells249 249)
  have hrl := (hr.lt r0 rfl).2
  have hg : (w7.alloc (.cells Tryz.zeroCells249 249)).grownBy ((w7.alloc (.cells Tryz.zeroCells249 249)).setRow w7.heap.size (Tryz.zeroCells249.setIfInBounds 256 (.slice (some ⟨r0, 0, none⟩) 0 3))) (some w7.heap.size) :=
    ⟨rfl, rfl, rfl, by simp, fun k hk hne => setRow_other _ _ _ _ (fun e => hne (by rw [e]))⟩
  refine ⟨hB, by simp, fun j hj => ?_, ?_, fun j => ?_, ?_, ?_, ?_⟩
  · rw [cell_setRow_same _ _ _ _ _ _ _ hn, zc_cell _ _ hj]; rfl
  · rw [cell_setRow_same _ _ _ _ _ _ _ hn]
    rw [Array.getElem?_setIfInBounds_self_of_lt (by rw [zc_size]; decide)]
  · unfold World.frozen?
    simp only [setRow_heap _ _ _ _ _ _ hn]
    simp
  · exact own_kept (hr.alloc _) hg (fun k hk e => by
      have : r0 = k := by simpa [Value.ownBlock] using hk
      injection e with e
      omega)
  · intro e
    have : r0 = w7.heap.size := by simpa [Value.ownBlock] using e
    omega
  · exact (hb.alloc hB _).grown hg (by simp; omega) (fun j e => by injection e with e; omega)
theorem RpS.push {W0 W w7 : World} {B g : Nat} {f : Nat → Value} {vT v7 : Value} {n : Nat} {ts : List Value} {x : Value} {row : Option Nat} (h : RpS W0 W B g f vT n ts) (hg : W.grownBy w7 row) (hrow : row ≠ some g) (hrB : ∀ j, row = some j → B ≤ j) (ho : w7.ownsRow B 9 1 v7 (n + 1) (ts ++ [x])) (hne : v7.ownBlock ≠ some g) (hB : B ≤ W.heap.size) :
    RpS W0 (w7.setCell ⟨g, 256, none⟩ v7) B g f v7 (n + 1) (ts ++ [x]) := by
  have hblk : w7.heap[g]? = W.heap[g]? := hg.block g h.gl (fun e => hrow e.symm)
  have hc : ∀ j, w7.cell? ⟨g, j, none⟩ = W.cell? ⟨g, j, none⟩ := fun j => World.cell?_of_block (a := ⟨g, j, none⟩) hblk
  refine ⟨h.gB, by rw [size_set]; exact Nat.lt_of_lt_of_le h.gl hg.size, fun j hj => ?_, ?_, fun j => ?_, ?_, hne, ?_⟩
  · rw [World.cell?_setCell_other _ _ _ _ (by intro e; injection e with _ e; omega), hc]
    exact h.c j hj
  · exact World.cell?_setCell_same _ _ _ ((hc 256).trans h.cT)
  · rw [World.frozen?_setCell]
    have := h.fz j
    unfold World.frozen? at this ⊢
    simp only [hblk]
    exact this
  · exact own_kept ho (grown_set w7 g 256 v7) (fun k hk e => hne (by rw [hk, e]))
  · exact (h.bel.grown hg hB hrB).grown (grown_set w7 g 256 v7) (Nat.le_trans hB hg.size) (fun j e => by injection e with e; have := h.gB; omega)
theorem RpS.put {W0 W w7 : World} {B g : Nat} {f : Nat → Value} {vT : Value} {n k : Nat} {ts : List Value} {v : Value} (h : RpS W0 W B g f vT n ts) (hg : Below W.heap.size W w7) (hk : k < 256) (hB : B ≤ W.heap.size) :
    RpS W0 (w7.setCell ⟨g, k, none⟩ v) B g (updR f k v) vT n ts := by
  have hblk : w7.heap[g]? = W.heap[g]? := hg.block g h.gl
  have hc : ∀ j, w7.cell? ⟨g, j, none⟩ = W.cell? ⟨g, j, none⟩ := fun j => World.cell?_of_block (a := ⟨g, j, none⟩) hblk
  refine ⟨h.gB, by rw [size_set]; exact Nat.lt_of_lt_of_le h.gl hg.size, fun j hj => ?_, ?_, fun j => ?_, ?_, h.rg, ?_⟩
  · unfold updR
    by_cases e : j = k
    · subst e
      rw [if_pos rfl]
      exact World.cell?_setCell_same _ _ _ ((hc j).trans (h.c j hj))
    · rw [if_neg e, World.cell?_setCell_other _ _ _ _ (by intro e2; injection e2 with _ e2; omega), hc]
      exact h.c j hj
  · rw [World.cell?_setCell_other _ _ _ _ (by intro e2; injection e2 with _ e2; omega), hc]
    exact h.cT
  · rw [World.frozen?_setCell]
    have := h.fz j
    unfold World.frozen? at this ⊢
    simp only [hblk]
    exact this
  · exact own_kept (own_kept h.row (grown_of_below hg none) (fun k _ => by simp)) (grown_set w7 g k v) (fun j hj e => h.rg (by rw [hj, e]))
  · exact ((h.bel.trans (hg.mono hB))).grown (grown_set w7 g k v) (Nat.le_trans hB hg.size) (fun j e => by injection e with e; have := h.gB; omega)
/-- Bytes at a block that the table does not turn. -/
structure RpV (W : World) (B g : Nat) (vT v : Value) (s : ByteArray) : Prop where
  at_ : ∃ b c, v = .slice (some ⟨b, 0, none⟩) s.size c ∧ BA W (some ⟨b, 0, none⟩) s.size c s ∧ B ≤ b ∧ b < W.heap.size ∧ b ≠ g ∧ vT.ownBlock ≠ some b
theorem BA.stay {w w' : World} {b n c : Nat} {s : ByteArray} (h : BA w (some ⟨b, 0, none⟩) n c s) (hb : w'.heap[b]? = w.heap[b]?) (hs : w.heap.size ≤ w'.heap.size) : BA w' (some ⟨b, 0, none⟩) n c s :=
  ⟨h.1, h.2.1, h.2.2.1, fun hn => by
    obtain ⟨b', off, e, hbl, hz⟩ := h.2.2.2 hn
    injection e with e
    injection e with e1 e2
    subst e1 e2
    exact ⟨b, 0, rfl, Nat.lt_of_lt_of_le hbl hs, Bytes.keepAt hz fun k => World.cell?_of_block (a := ⟨b, k, none⟩) hb⟩⟩
theorem RpV.push {W w7 : World} {B g : Nat} {vT v7 v : Value} {s : ByteArray} {row : Option Nat} (h : RpV W B g vT v s) (hg : W.grownBy w7 row) (hrow : row = vT.ownBlock) (h7 : v7.ownBlock = vT.ownBlock ∨ ∃ j, v7.ownBlock = some j ∧ W.heap.size ≤ j) : RpV (w7.setCell ⟨g, 256, none⟩ v7) B g v7 v s := by
  obtain ⟨b, c, e, hba, hB, hbl, hbg, hbT⟩ := h.at_
  have hblk : (w7.setCell ⟨g, 256, none⟩ v7).heap[b]? = W.heap[b]? := ((grown_set w7 g 256 v7).block b (Nat.lt_of_lt_of_le hbl hg.size) (fun e => by injection e with e; exact hbg e)).trans (hg.block b hbl (fun e => hbT (by rw [← hrow, e])))
  have hsz : W.heap.size ≤ (w7.setCell ⟨g, 256, none⟩ v7).heap.size := by rw [size_set]; exact hg.size
  refine ⟨b, c, e, hba.stay hblk hsz, hB, Nat.lt_of_lt_of_le hbl hsz, hbg, fun e2 => ?_⟩
  rcases h7 with h | ⟨j, h, hj⟩
  · exact hbT (h.symm.trans e2)
  · rw [h] at e2
    injection e2 with e2
    omega
theorem RpV.put {W w7 : World} {B g k : Nat} {vT v u : Value} {s : ByteArray} (h : RpV W B g vT v s) (hg : Below W.heap.size W w7) : RpV (w7.setCell ⟨g, k, none⟩ u) B g vT v s := by
  obtain ⟨b, c, e, hba, hB, hbl, hbg, hbT⟩ := h.at_
  have hblk : (w7.setCell ⟨g, k, none⟩ u).heap[b]? = W.heap[b]? := ((grown_set w7 g k u).block b (Nat.lt_of_lt_of_le hbl hg.size) (fun e => by injection e with e; exact hbg e)).trans (hg.block b hbl)
  have hsz : W.heap.size ≤ (w7.setCell ⟨g, k, none⟩ u).heap.size := by rw [size_set]; exact hg.size
  exact ⟨b, c, e, hba.stay hblk hsz, hB, Nat.lt_of_lt_of_le hbl hsz, hbg, hbT⟩
/-- A conversion's bytes, laid into the table. -/
theorem RpV.new {W0 W : World} {B g k : Nat} {f : Nat → Value} {vT : Value} {n : Nat} {ts : List Value} (h : RpS W0 W B g f vT n ts) (hB : B ≤ W.heap.size) (s : ByteArray) (hs : s.size ≤ 1000) :
    RpV ((Lib.bytesWorld W 5 s).setCell ⟨g, k, none⟩ (.slice (some ⟨W.heap.size, 0, none⟩) s.size (grownCap W s.size 0 5))) B g vT (.slice (some ⟨W.heap.size, 0, none⟩) s.size (grownCap W s.size 0 5)) s := by
  have hsz := Lib.bytesWorld_size W 5 s
  have hge := grownCap_ge W s.size 0 5
  have hcm := grownCap_le_maxLen W s.size 0 5 (by unfold maxLen; omega)
  have hba : BA (Lib.bytesWorld W 5 s) (some ⟨W.heap.size, 0, none⟩) s.size (grownCap W s.size 0 5) s := ⟨rfl, hge, by unfold maxLen at hcm; omega, fun _ => ⟨W.heap.size, 0, rfl, by omega, bytesWorld_new W 5 s⟩⟩
  have hne : W.heap.size ≠ g := fun e => by have := h.gl; omega
  refine ⟨W.heap.size, _, rfl, hba.stay ((grown_set _ g k _).block _ (by omega) (fun e => by injection e with e; exact hne e)) (by rw [size_set]; exact Nat.le_refl _), hB, by rw [size_set]; omega, hne, fun e => ?_⟩
  have := (h.row.lt _ e).2
  omega
theorem RpS.conv {W0 W : World} {B g k : Nat} {f : Nat → Value} {vT : Value} {n : Nat} {ts : List Value} (h : RpS W0 W B g f vT n ts) (hk : k < 256) (s : ByteArray) : (Lib.bytesWorld W 5 s).cell? ⟨g, k, none⟩ = some (f k) ∧ (Lib.bytesWorld W 5 s).frozen? ⟨g, k, none⟩ = false := by
  have hblk : (Lib.bytesWorld W 5 s).heap[g]? = W.heap[g]? := (bytesWorld_below W 5 s).block g h.gl
  refine ⟨(World.cell?_of_block (a := ⟨g, k, none⟩) hblk).trans (h.c k hk), ?_⟩
  have := h.fz k
  unfold World.frozen? at this ⊢
  simp only [hblk]
  exact this
theorem RpS.far {W0 W w7 : World} {B g : Nat} {f : Nat → Value} {vT : Value} {n : Nat} {ts : List Value} {row : Option Nat} (h : RpS W0 W B g f vT n ts) (hg : W.grownBy w7 row) (hrow : row ≠ some g) : w7.cell? ⟨g, 256, none⟩ = some vT ∧ w7.frozen? ⟨g, 256, none⟩ = false := by
  have hblk : w7.heap[g]? = W.heap[g]? := hg.block g h.gl (fun e => hrow e.symm)
  refine ⟨(World.cell?_of_block (a := ⟨g, 256, none⟩) hblk).trans h.cT, ?_⟩
  have := h.fz 256
  unfold World.frozen? at this ⊢
  simp only [hblk]
  exact this
theorem grown_two {W w7 : World} {a b : Obj} {row : Option Nat} (h : ((W.alloc a).alloc b).grownBy w7 row) : W.grownBy w7 row := by
  have g1 := World.grownBy_alloc W a row
  have g2 := World.grownBy_alloc (W.alloc a) b row
  exact ⟨h.os.trans (g2.os.trans g1.os), h.tape.trans (g2.tape.trans g1.tape), h.output.trans (g2.output.trans g1.output), Nat.le_trans g1.size (Nat.le_trans g2.size h.size), fun k hk hne => (h.block k (Nat.lt_of_lt_of_le hk (Nat.le_trans g1.size g2.size)) hne).trans ((g2.block k (Nat.lt_of_lt_of_le hk g1.size) hne).trans (g1.block k hk hne))⟩
end Go.Proofs.YtpnbkecchfhimaaGreatDoor
