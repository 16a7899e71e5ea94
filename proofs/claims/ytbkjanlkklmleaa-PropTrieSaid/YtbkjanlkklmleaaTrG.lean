/- Chapter 03: trie.New: the walk. -/
import Derived.Test.YtbkjanlkklmleaaTrD
import Derived.Test.YtbkjanlkklmleaaTrE
namespace Go.Proofs.Ytbkjanlkklmleaa
open Go.RowKit
open Go.Lib (hid)
set_option linter.unusedVariables false
set_option linter.unusedSimpArgs false
set_option maxRecDepth 100000

def bdZ : List Value := .slice none 0 0 :: (List.replicate 4352 (.int .i64 0) ++ List.replicate 4352 (.slice none 0 0))
theorem bd_zero : Try.zeroCells89.toList = bdZ := by kernel_rfl
def trZ : List Value := .int .i64 0 :: (List.replicate 4352 (.int .u16 0) ++ [.slice none 0 0])
theorem trie_zero : Try.zeroCells69.toList = trZ := by kernel_rfl
theorem getL {xs : Array Value} {l : List Value} (h : xs.toList = l) (i : Nat) : xs[i]? = l[i]? := by rw [← h, Array.getElem?_toList]
theorem bdZ_wh (p : Nat) (hp : p < 4352) : bdZ[1 + p]? = some (.int .i64 0) := by
  unfold bdZ
  rw [Nat.add_comm, List.getElem?_cons_succ, List.getElem?_append_left (by simpa using hp), List.getElem?_replicate, if_pos hp]
theorem bdZ_pt (p : Nat) (hp : p < 4352) : bdZ[4353 + p]? = some (.slice none 0 0) := by
  unfold bdZ
  rw [show 4353 + p = (4352 + p) + 1 by omega, List.getElem?_cons_succ, List.getElem?_append_right (by simp), List.getElem?_replicate, if_pos (by simp; omega)]
theorem trZ_fs (p : Nat) (hp : p < 4352) : trZ[1 + p]? = some (.int .u16 0) := by
  unfold trZ
  rw [Nat.add_comm, List.getElem?_cons_succ, List.getElem?_append_left (by simpa using hp), List.getElem?_replicate, if_pos hp]
theorem trZ_bl : trZ[4353]? = some (.slice none 0 0) := by
  unfold trZ
  rw [show 4353 = 4352 + 1 from rfl, List.getElem?_cons_succ, List.getElem?_append_right (by simp)]
  simp
/-- A new builder. -/
theorem bd_new (W : World) (lv : Value) : BdS W (W.alloc (.cells (Try.zeroCells89.setIfInBounds 0 lv) 89)) W.heap.size W.heap.size lv ⟨fun _ => 0, fun _ => []⟩ (fun _ => .slice none 0 0) := by
  have hb := Blk.new W 89 (Try.zeroCells89.setIfInBounds 0 lv)
  refine ⟨Nat.le_refl _, hb.lt, ?_, fun p hp => ?_, fun p hp => ?_, hb.frozen, fun p hp => World.ownsRow_nil _ _ _ _, (fun p q _ _ _ j h => by cases h), (fun p _ h => by cases h), (Below.refl _ _).alloc (Nat.le_refl _) _⟩
  · rw [hb.cell, Array.getElem?_setIfInBounds, if_pos rfl, if_pos (by rw [Try.zeroCells89_size]; decide)]
  · rw [hb.cell, Array.getElem?_setIfInBounds, if_neg (by omega), getL bd_zero, bdZ_wh p hp]
    rfl
  · rw [hb.cell, Array.getElem?_setIfInBounds, if_neg (by omega), getL bd_zero, bdZ_pt p hp]
theorem bd_und (E : Nat → List Rg × Int) (o : Int) (p : Nat) : Und E o ⟨fun _ => 0, fun _ => []⟩ 0 p := fun r _ => rfl
theorem bd_ok : PtOk ⟨fun _ => 0, fun _ => []⟩ 0 := fun p => ⟨List.Pairwise.nil, (fun k hk => by cases hk), Nat.le_refl _⟩
def rowOf (bs : List (Nat → Int)) : List Value := bs.flatMap fun f => (mkA f).toList
/-- A trie under way: its cells, its unlike blocks, the map of these. -/
structure TrI (W0 W : World) (gt mb : Nat) (o : Int) (F : Nat → Nat → Int) (p n : Nat) (bv : Value) (bs : List (Nat → Int)) (fs : Nat → Nat) (D : DataW (TypeId × Value)) : Prop where
  tB : W0.heap.size ≤ gt
  tl : gt < W.heap.size
  mB : W0.heap.size ≤ mb
  ng : mb ≠ gt
  c0 : W.cell? ⟨gt, 0, none⟩ = some (.int .i64 o)
  cf : ∀ q, q < 4352 → W.cell? ⟨gt, 1 + q, none⟩ = some (.int .u16 (fs q))
  cb : W.cell? ⟨gt, 4353, none⟩ = some bv
  fz : ∀ j, W.frozen? ⟨gt, j, none⟩ = false
  row : W.ownsRow W0.heap.size 71 256 bv bs.length (rowOf bs)
  rg : bv.ownBlock ≠ some gt
  rm : bv.ownBlock ≠ some mb
  mp : W.ownsMap Try.prog 71 (plainElem Try.prog 3) mb n D
  bl : bs.length ≤ n
  ok : ∀ q, q < p → ∃ h, bs[fs q]? = some h ∧ ∀ k, k < 256 → h k = F q k
  key : ∀ (f : Nat → Int) kl, keyOf Try.prog 71 (.agg (mkA f)) = some kl → Maps.has D kl = true → ∃ (j : Nat) (h : Nat → Int), D.atKey kl (.lit (.int .i64 0)) = .lit (.int .i64 j) ∧ bs[j]? = some h ∧ mkA h = mkA f
  bel : Below W0.heap.size W0 W
theorem tr_new (W0 : World) (o : Int) (F : Nat → Nat → Int) : TrI W0 ((W0.alloc (.cells (Try.zeroCells69.setIfInBounds 0 (.int .i64 o)) 69)).alloc (.map #[] 0)) W0.heap.size (W0.heap.size + 1) o F 0 0 (.slice none 0 0) [] (fun _ => 0) (.map []) := by
  have hb := (Blk.new W0 69 (Try.zeroCells69.setIfInBounds 0 (.int .i64 o))).alloc (.map #[] 0)
  have hm := World.ownsMap_made (H := TypeId × Value) (W0.alloc (.cells (Try.zeroCells69.setIfInBounds 0 (.int .i64 o)) 69)) Try.prog 71 (plainElem Try.prog 3)
  rw [show (W0.alloc (.cells (Try.zeroCells69.setIfInBounds 0 (.int .i64 o)) 69)).heap.size = W0.heap.size + 1 by simp] at hm
  refine ⟨Nat.le_refl _, hb.lt, Nat.le_succ _, by omega, ?_, fun q hq => ?_, ?_, hb.frozen, World.ownsRow_nil _ _ _ _, (fun h => by cases h), (fun h => by cases h), hm, Nat.le_refl _, fun q hq => absurd hq (Nat.not_lt_zero _), (fun f kl _ h => by cases h), ((Below.refl _ _).alloc (Nat.le_refl _) _).alloc (by simp) _⟩
  · rw [hb.cell, Array.getElem?_setIfInBounds, if_pos rfl, if_pos (by rw [Try.zeroCells69_size]; decide)]
  · rw [hb.cell, Array.getElem?_setIfInBounds, if_neg (by omega), getL trie_zero, trZ_fs q hq]
    rfl
  · rw [hb.cell, Array.getElem?_setIfInBounds, if_neg (by omega), getL trie_zero, trZ_bl]
theorem TrI.below {W0 W W' : World} {gt mb p n : Nat} {o : Int} {F : Nat → Nat → Int} {bv : Value} {bs : List (Nat → Int)} {fs : Nat → Nat} {D : DataW (TypeId × Value)} (h : TrI W0 W gt mb o F p n bv bs fs D) (hb : Below W.heap.size W W') : TrI W0 W' gt mb o F p n bv bs fs D :=
  ⟨h.tB, Nat.lt_of_lt_of_le h.tl hb.size, h.mB, h.ng, (hb.cell (p := ⟨gt, 0, none⟩) h.tl).trans h.c0, fun q hq => (hb.cell (p := ⟨gt, 1 + q, none⟩) h.tl).trans (h.cf q hq), (hb.cell (p := ⟨gt, 4353, none⟩) h.tl).trans h.cb, fun j => (blk_frozen (hb.block gt h.tl)).trans (h.fz j), own_kept h.row (grown0_of hb) (fun k _ => by simp), h.rg, h.rm, h.mp.kept (grown0_of hb) (by simp), h.bl, h.ok, h.key, h.bel.trans (hb.mono h.bel.size)⟩
/-- The place's number is stored. -/
theorem TrI.put_ {W0 W : World} {gt mb p n j : Nat} {o : Int} {F : Nat → Nat → Int} {bv : Value} {bs : List (Nat → Int)} {fs : Nat → Nat} {D : DataW (TypeId × Value)} {f : Nat → Int} (h : TrI W0 W gt mb o F p n bv bs fs D) (hp : p < 4352) (hj : bs[j]? = some f) (hf : ∀ k, k < 256 → f k = F p k) : TrI W0 (W.setCell ⟨gt, 1 + p, none⟩ (.int .u16 j)) gt mb o F (p + 1) n bv bs (updN fs p j) D := by
  have hg := grown_set W gt (1 + p) (.int .u16 j)
  refine ⟨h.tB, by rw [size_set]; exact h.tl, h.mB, h.ng, ?_, fun q hq => ?_, ?_, fun i => ?_, own_kept h.row hg (fun k hk e => h.rg (by rw [hk, e])), h.rg, h.rm, h.mp.kept hg (fun e => h.ng (by injection e)), h.bl, fun q hq => ?_, h.key, h.bel.grown hg h.bel.size (fun k e => by injection e with e; have := h.tB; omega)⟩
  · rw [World.cell?_setCell_other _ _ _ _ (by simp)]
    exact h.c0
  · by_cases e : q = p
    · subst e
      rw [updN_at]
      exact World.cell?_setCell_same _ _ _ (h.cf q hq)
    · rw [World.cell?_setCell_other _ _ _ _ (by intro e2; injection e2 with _ e2; omega), show updN fs p j q = fs q from if_neg e]
      exact h.cf q hq
  · rw [World.cell?_setCell_other _ _ _ _ (by intro e2; injection e2 with _ e2; omega)]
    exact h.cb
  · rw [World.frozen?_setCell]; exact h.fz i
  · by_cases e : q = p
    · subst e
      rw [updN_at]
      exact ⟨f, hj, hf⟩
    · rw [show updN fs p j q = fs q from if_neg e]
      exact h.ok q (by omega)
/-- An unlike block has been noted: in the map, and behind the others. -/
theorem TrI.add_ {W0 W W1 W3 : World} {gt mb p n : Nat} {o : Int} {F : Nat → Nat → Int} {bv v3 : Value} {bs : List (Nat → Int)} {fs : Nat → Nat} {D : DataW (TypeId × Value)} {f : Nat → Int} {kl : Lit} (h : TrI W0 W gt mb o F p n bv bs fs D) (hkl : keyOf Try.prog 71 (.agg (mkA f)) = some kl)
    (h1 : W1.ownsMap Try.prog 71 (plainElem Try.prog 3) mb (n + 1) (D.put kl (.lit (.int .i64 bs.length)))) (hg1 : W.grownBy W1 (some mb))
    (h3 : W3.ownsRow W0.heap.size 71 256 v3 (bs.length + 1) (rowOf bs ++ (mkA f).toList)) (hg3 : W1.grownBy W3 bv.ownBlock) (hv3 : v3.ownBlock = bv.ownBlock ∨ ∃ j, v3.ownBlock = some j ∧ W.heap.size ≤ j) :
    TrI W0 (W3.setCell ⟨gt, 4353, none⟩ v3) gt mb o F p (n + 1) v3 (bs ++ [f]) fs (D.put kl (.lit (.int .i64 bs.length))) := by
  have hg := grown_set W3 gt 4353 v3
  have hb1 : W1.heap[gt]? = W.heap[gt]? := hg1.block gt h.tl (fun e => h.ng (by injection e with e; exact e.symm))
  have hb3 : W3.heap[gt]? = W.heap[gt]? := (hg3.block gt (Nat.lt_of_lt_of_le h.tl hg1.size) (fun e => h.rg e.symm)).trans hb1
  have hc : ∀ j, W3.cell? ⟨gt, j, none⟩ = W.cell? ⟨gt, j, none⟩ := fun j => World.cell?_of_block (a := ⟨gt, j, none⟩) hb3
  have hmlt := h.mp.lt
  have hne : v3.ownBlock ≠ some gt := fun e => by
    rcases hv3 with h1 | ⟨j, h1, hj⟩
    · exact h.rg (h1.symm.trans e)
    · rw [h1] at e; injection e with e; have := h.tl; omega
  have hnm : v3.ownBlock ≠ some mb := fun e => by
    rcases hv3 with h1 | ⟨j, h1, hj⟩
    · exact h.rm (h1.symm.trans e)
    · rw [h1] at e; injection e with e; omega
  have hbel : Below W0.heap.size W0 W3 := (h.bel.grown hg1 h.bel.size (fun k e => by injection e with e; have := h.mB; omega)).grown hg3 (Nat.le_trans h.bel.size hg1.size) (fun k e => own_ge h.row k e)
  refine ⟨h.tB, by rw [size_set]; exact Nat.lt_of_lt_of_le h.tl (Nat.le_trans hg1.size hg3.size), h.mB, h.ng, ?_, fun q hq => ?_, ?_, fun i => ?_, ?_, hne, hnm, (h1.kept hg3 (fun e => h.rm e.symm)).kept hg (fun e => h.ng (by injection e)), by simpa using h.bl, fun q hq => ?_, fun f' kl' hk' hh => ?_, hbel.grown hg hbel.size (fun k e => by injection e with e; have := h.tB; omega)⟩
  · rw [World.cell?_setCell_other _ _ _ _ (by simp), hc]
    exact h.c0
  · rw [World.cell?_setCell_other _ _ _ _ (by intro e2; injection e2 with _ e2; omega), hc]
    exact h.cf q hq
  · exact World.cell?_setCell_same _ _ _ ((hc _).trans h.cb)
  · rw [World.frozen?_setCell, blk_frozen hb3]; exact h.fz i
  · have : rowOf (bs ++ [f]) = rowOf bs ++ (mkA f).toList := by unfold rowOf; rw [List.flatMap_append]; simp
    rw [this, List.length_append]
    exact own_kept h3 hg (fun k hk e => hne (by rw [hk, e]))
  · obtain ⟨x, hx, hk⟩ := h.ok q hq
    exact ⟨x, by rw [List.getElem?_append_left (List.getElem?_eq_some_iff.1 hx).1]; exact hx, hk⟩
  · by_cases e : kl' = kl
    · subst e
      have he := tr_keyed.inj hk' hkl
      injection he with he
      exact ⟨bs.length, f, Maps.atKey_put_same h.mp.isMap (tr_keyed.key hkl) _ _, by simp, he.symm⟩
    · rw [Maps.has_put_other e] at hh
      obtain ⟨j, x, a1, a2, a3⟩ := h.key f' kl' hk' hh
      exact ⟨j, x, (Maps.atKey_put_other e _ _).trans a1, by rw [List.getElem?_append_left (List.getElem?_eq_some_iff.1 a2).1]; exact a2, a3⟩
theorem mkA_inj {f h : Nat → Int} (e : mkA f = mkA h) (k : Nat) (hk : k < 256) : f k = h k := by
  have h1 := mkA_get f k hk
  rw [e, mkA_get h k hk] at h1
  injection h1 with h1
  injection h1 with _ h1
  exact h1.symm
theorem colF_rng {E : Nat → List Rg × Int} {n : Nat} (hE : ∀ i, i < n → 0 ≤ (E i).2 ∧ (E i).2 ≤ 255) (r : Int) : ∀ (l : List Nat) (c : Int), (∀ k ∈ l, k < n) → 0 ≤ c ∧ c ≤ 255 → 0 ≤ colF E l r c ∧ colF E l r c ≤ 255
  | [], c, _, h => h
  | k :: l, c, hl, h => by
    refine colF_rng hE r l _ (fun x hx => hl x (List.mem_cons_of_mem _ hx)) ?_
    show 0 ≤ (if inB (E k).1 r = true then (E k).2 else c) ∧ (if inB (E k).1 r = true then (E k).2 else c) ≤ 255
    split
    · exact hE k (hl k (List.mem_cons_self ..))
    · exact h
theorem colP_rng {E : Nat → List Rg × Int} {n : Nat} {o : Int} {s : Bs} (hE : ∀ i, i < n → 0 ≤ (E i).2 ∧ (E i).2 ≤ 255) (ho : 0 ≤ o ∧ o ≤ 255) (hP : PtOk s n) (p : Nat) (r : Int) : 0 ≤ colP E o s p r ∧ colP E o s p r ≤ 255 := by
  refine colF_rng hE r _ _ (hP p).2.1 ?_
  unfold baseC
  split
  · exact hE _ (by have := (hP p).2.2; omega)
  · exact ho
theorem tr_fill (f : Nat → Int) (cells : Array Value) (hc : cells.size = 256) : Instr.fill (fun i => some (i * 256, 256)) cells [(0, Value.agg (mkA f))] = some (mkA f) := by
  have := Great.fill_whole (s := 256) (by decide) [Value.agg (mkA f)] cells (fun v hv => by rw [List.mem_singleton.1 hv]; exact mkA_size f) (by simp [hc])
  rw [show ([Value.agg (mkA f)].flatMap fun v => v.cells.toList).toArray = mkA f by simp [Value.cells]] at this
  exact this
theorem info_blk : (Try.prog.info? 71).map (fun i => (i.zero, i.size, i.bytes)) = some (some (.agg Try.zeroCells71), 256, 256) := by kernel_rfl
theorem reads_mkA {w : World} {q : Nat} {f : Nat → Int} (h : Blk w q 71 (mkA f)) : Reads w w.heap.size 256 (some ⟨q, 0, none⟩) 1 (mkA f).toList := by
  refine ⟨by rw [Array.length_toList, mkA_size], fun _ => ⟨_, rfl, h.lt, fun j u hu => ?_⟩⟩
  have e : (Addr.add ⟨q, 0, none⟩ j) = ⟨q, j, none⟩ := by unfold Addr.add; split <;> simp_all
  rw [e, h.cell j, ← Array.getElem?_toList]
  exact hu
theorem mkA_oneL (f : Nat → Int) : ∀ u ∈ (mkA f).toList, u.oneCell' = true := by
  intro u hu
  unfold mkA at hu
  rw [List.toList_toArray] at hu
  obtain ⟨k, _, rfl⟩ := List.mem_map.1 hu
  rfl
theorem wp_store_slc {P : Program} {o : Oper} {a : Act} {w : World} {K : Act → World → Prop} {Q : Exit → Act → World → Prop} (ty : TypeId) (x y : Operand) (ho : o.op = .store ty x y)
    (b i : Nat) (A : Option Addr) (n c : Nat) (hx : a.eval x = .pointer (some ⟨b, i, none⟩)) (hy : a.eval y = .slice A n c) (old : Value) (hc : w.cell? ⟨b, i, none⟩ = some old) (hf : w.frozen? ⟨b, i, none⟩ = false)
    (hi : (P.info? ty).map (·.size) = some 1) (h : K (a.put o.dst undef) (w.setCell ⟨b, i, none⟩ (.slice A n c))) : o.wp P a w K Q := by
  cases hq : P.info? ty with
  | none => simp [hq] at hi
  | some inf =>
    have hsz : inf.size = 1 := by simpa [hq] using hi
    unfold Oper.wp execOp
    simp [ho, hx, hy, Instr.storeAt, Instr.sureAddr, storeVar, sizeOf, typeInfo, hq, hsz, Value.cells, storeCells, Addr.add]
    rw [run_store _ _ _ _ _ rfl]
    simp only [hc, hf, Bool.false_eq_true, if_false, Result.andThen_ok]
    exact h
theorem slc_info : (Try.prog.info? 67).map (·.size) = some 1 := by kernel_rfl
def mkL (f : Nat → Int) : List Value := (List.range 256).map fun k => Value.int .u8 (f k)
theorem mkL_len (f : Nat → Int) : (mkL f).length = 256 := by simp [mkL]
theorem range_mkL {w : World} {q : Nat} {f : Nat → Int} (h : Blk w q 71 (mkA f)) : w.rangeAt q 0 (mkL f) := fun j v hj => by
  rw [Nat.zero_add, h.cell j]
  show (mkL f).toArray[j]? = some v
  simpa using hj
theorem grown_drew_alloc (w : World) (o : Obj) (row : Option Nat) : w.grownBy (w.drew.alloc o) row := by
  have := World.grownBy_alloc w.drew o row
  exact ⟨this.os, this.tape, this.output, this.size, this.block⟩
theorem wp_append_runT {P : Program} {o : Oper} {a : Act} {w w' : World} {K : Act → World → Prop} {Q : Exit → Act → World → Prop} {sl x : Operand} {t ty : TypeId} {v u v' : Value} (ho : o.op = .call { callee := .builtin .append, args := #[sl, x], argTypes := #[t, t] }) (hty : o.type = ty) (hs : a.eval sl = v) (hx : a.eval x = u)
    (hr : (Builtin.append_ #[t, t] ty #[v, u]).run P w = .ok v' w') (h : K (a.put o.dst v') w') : Oper.wp P o a w K Q := by
  subst hty
  unfold Oper.wp execOp
  simp only [ho, resolve, invoke, builtin, Sem.run_bind, Sem.run_pure, Result.andThen_ok, List.map_toArray, List.map_cons, List.map_nil, hs, hx, hr]
  exact h
/-- What a new trie tells. -/
def TrW (W : World) (gt : Nat) (o : Int) (G : Int → Int) : Prop := (gt < W.heap.size ∧ W.cell? ⟨gt, 0, none⟩ = some (.int .i64 o)) ∧ ∃ (bA m c : Nat), bA < W.heap.size ∧ W.cell? ⟨gt, 4353, none⟩ = some (.slice (some ⟨bA, 0, none⟩) m c) ∧ m ≤ 4352 ∧ ∀ q : Nat, q < 4352 → ∃ j : Nat, j < m ∧ W.cell? ⟨gt, 1 + q, none⟩ = some (.int .u16 j) ∧ ∀ k : Nat, k < 256 → W.cell? ⟨bA, j * 256 + k, none⟩ = some (.int .u8 (G ((q : Int) * 256 + k)))
theorem TrW.below {W W' : World} {gt : Nat} {o : Int} {G : Int → Int} (h : TrW W gt o G) (hb : Below W.heap.size W W') : TrW W' gt o G := by
  obtain ⟨⟨h1, h0⟩, bA, m, c, h2, h3, h4, h5⟩ := h
  refine ⟨⟨Nat.lt_of_lt_of_le h1 hb.size, (hb.cell (p := ⟨gt, 0, none⟩) h1).trans h0⟩, bA, m, c, Nat.lt_of_lt_of_le h2 hb.size, (hb.cell (p := ⟨gt, 4353, none⟩) h1).trans h3, h4, fun q hq => ?_⟩
  obtain ⟨j, a1, a2, a3⟩ := h5 q hq
  exact ⟨j, a1, (hb.cell (p := ⟨gt, 1 + q, none⟩) h1).trans a2, fun k hk => (hb.cell (p := ⟨bA, _, none⟩) h2).trans (a3 k hk)⟩
theorem rowOf_get {bs : List (Nat → Int)} {j k : Nat} {f : Nat → Int} (h : bs[j]? = some f) (hk : k < 256) : (rowOf bs)[j * 256 + k]? = some (.int .u8 (f k)) := by
  have e : rowOf bs = (bs.map fun f => Value.agg (mkA f)).flatMap fun v => v.cells.toList := by unfold rowOf; rw [List.flatMap_map]; rfl
  rw [e, Great.flat_get (s := 256) (by decide) _ (fun v hv => by obtain ⟨f, _, rfl⟩ := List.mem_map.1 hv; exact mkA_size f), show (j * 256 + k) / 256 = j by omega, show (j * 256 + k) % 256 = k by omega, List.getElem?_map, h]
  exact mkA_get f k hk
theorem TrI.done {W0 W : World} {gt mb n : Nat} {o : Int} {G : Int → Int} {bv : Value} {bs : List (Nat → Int)} {fs : Nat → Nat} {D : DataW (TypeId × Value)} (h : TrI W0 W gt mb o (fun q k => G ((q : Int) * 256 + k)) 4352 n bv bs fs D) (hn : n ≤ 4352) : TrW W gt o G := by
  obtain ⟨a, c, e1, e2, e3, e4⟩ := owns_form h.row
  have h0 : 0 < bs.length := by
    obtain ⟨x, hx, _⟩ := h.ok 0 (by decide)
    exact Nat.lt_of_le_of_lt (Nat.zero_le _) (List.getElem?_eq_some_iff.1 hx).1
  obtain ⟨bA, e5, e6, e7, e8⟩ := e4 h0
  refine ⟨⟨h.tl, h.c0⟩, bA, bs.length, c, e7, by rw [h.cb, e1, e5], Nat.le_trans h.bl hn, fun q hq => ?_⟩
  obtain ⟨x, hx, hk⟩ := h.ok q hq
  have hl := (List.getElem?_eq_some_iff.1 hx).1
  refine ⟨fs q, hl, h.cf q hq, fun k hk2 => ?_⟩
  rw [e8 _ (by omega), rowOf_get hx hk2, hk k hk2]
theorem wpList_lookup_run {P : Program} {ops : Array Oper} {rest : List Oper} {o : Oper} {a : Act} {w w' : World} {Q : Exit → Act → World → Prop} {m x : Operand} {t : TypeId} {b : Bool} {mv kv v : Value} (hg : o.guard = none) (ho : o.op = Op.lookup t m x b) (hm : a.eval m = mv) (hx : a.eval x = kv)
    (hr : (Instr.lookup t mv kv b).run P w = .ok v w') (h : wpList P ops Q rest (a.put o.dst v) w') : wpList P ops Q (o :: rest) a w := by
  refine wpList_plain hg fun K' hK' => ?_
  unfold Oper.wp
  simp [execOp, ho, hm, hx, hr, Result.andThen]
  exact hK' _ _ h
theorem wpList_mapUpdate_run {P : Program} {ops : Array Oper} {rest : List Oper} {o : Oper} {a : Act} {w w' : World} {Q : Exit → Act → World → Prop} {m x v : Operand} {t : TypeId} {mv kv vv : Value} (hg : o.guard = none) (ho : o.op = Op.mapUpdate t m x v) (hm : a.eval m = mv) (hx : a.eval x = kv) (hv : a.eval v = vv)
    (hr : (Instr.mapUpdate t mv kv vv).run P w = .ok () w') (h : wpList P ops Q rest (a.put o.dst undef) w') : wpList P ops Q (o :: rest) a w := by
  refine wpList_plain hg fun K' hK' => ?_
  unfold Oper.wp
  simp [execOp, ho, hm, hx, hv, hr, Result.andThen]
  exact hK' _ _ h
theorem tr_zeroV (w : World) : (zeroValue 3).run Try.prog w = .ok (.int .i64 0) w := by kernel_rfl
theorem tr_undI : Try.prog.underlying 3 = some (.int .i64) := by kernel_rfl
theorem tr_look {W : World} {mb n : Nat} {D : DataW (TypeId × Value)} {f : Nat → Int} {kl : Lit} (h : W.ownsMap Try.prog 71 (plainElem Try.prog 3) mb n D) (hk : keyOf Try.prog 71 (.agg (mkA f)) = some kl) :
    ∃ c : Int, (Instr.lookup 91 (.map (some mb)) (.agg (mkA f)) true).run Try.prog W = .ok (.tuple #[.int .i64 c, .bool (Maps.has D kl)]) W ∧ D.atKey kl (.lit (.int .i64 0)) = .lit (.int .i64 c) := by
  obtain ⟨v, ps, hrun, hv⟩ := h.look_ok tr_keyed Try.underlying91 (tr_zeroV W) (plainElem_int tr_undI (by decide)) hk
  obtain ⟨c, rfl, hc, _⟩ := plainElem_int_inv tr_undI hv
  exact ⟨c, hrun, congrArg Prod.fst hc⟩
set_option maxHeartbeats 8000000 in
theorem trnew_any (le nE cap : Nat) (E : Nat → List Rg × Int) (o : Int) (w : World) (he : EntR w le nE E) (hn : nE ≤ 200) (hk : EntOk nE E) (ho : 0 ≤ o ∧ o ≤ 255) :
    Calls Try.prog 32 #[.int .i64 o, .slice (some ⟨le, 0, none⟩) nE cap] w fun e w' => ∃ gt, e = .returned (.tuple #[.pointer (some ⟨gt, 0, none⟩), .int .i64 0]) ∧ TrW w' gt o (specN E o nE) ∧ Below w.heap.size w w' := by
  have HE := hid he
  have HK := hid hk
  have HCL := hid (trclass_any o ho.1 ho.2 w)
  have HCO := hid (trcontains_any le nE cap E w he hn hk)
  clear he hk
  go_enter Try.func32, Try.ntmps32
  go_wp2_with fail
  refine HCL.out.mono ?_
  rintro e w2 ⟨rfl, hw⟩
  obtain rfl : w = w2 := hw.symm
  go_wp2_with fail
  refine HCO.out.mono ?_
  rintro e w3 ⟨rfl, hb3⟩
  have HB3 := hid hb3
  clear hb3
  have HBD := hid (bd_new w3 (.slice (some ⟨le, 0, none⟩) nE cap))
  have HE3 := hid (HE.out.below HB3.out)
  go_wp2_with fail
  generalize w3.alloc (.cells (Try.zeroCells89.setIfInBounds 0 (.slice (some ⟨le, 0, none⟩) nE cap)) 89) = w4 at *
  go_loopg [31] nE (fun kx s31 wr => ∃ (i : Nat) (s : Bs) (pv : Nat → Value), s31 = .int .i64 i ∧ i ≤ nE ∧ nE - i ≤ kx ∧ Hid (BdS w3 wr w3.heap.size w3.heap.size (.slice (some ⟨le, 0, none⟩) nE cap) s pv) ∧ Hid (∀ p, Und E o s i p) ∧ Hid (PtOk s i))
  case atStart => exact ⟨0, _, _, rfl, Nat.zero_le _, Nat.le_refl _, HBD.out, fun p => bd_und E o p, bd_ok⟩
  case round =>
    obtain ⟨i, s, pv, rfl, hi1, hgi, HB, HU, HP⟩ := hrel
    by_cases hlt : i < nE
    · have hlt' : (i : Int) < (nE : Int) := by omega
      have HSP := hid (spread_any w3 w3.heap.size le cap nE i E o s pv wr HE3.out HB.out hlt hn (fun x hx => right_ok (HK.out i hlt).1 x hx) HU.out HP.out)
      clear hlt
      go_wp2_with fail
      refine HSP.out.mono ?_
      rintro e w5 ⟨rfl, s2, pv2, h1, h2, h3⟩
      have H1 := hid h1
      have H2 := hid h2
      have H3 := hid h3
      clear h1 h2 h3 HSP
      go_wp2_with fail
      go_roundg (nE - (i + 1))
      case measure => omega
      case rel => exact ⟨i + 1, s2, pv2, by go_num, by omega, Nat.le_refl _, H1.out, H2.out, H3.out⟩
    · have hlt' : ¬ (i : Int) < (nE : Int) := by omega
      obtain rfl : i = nE := by omega
      have HT := hid (tr_new wr o (fun q k => specN E o i ((q : Int) * 256 + k)))
      have hmm := @run_makeMap Try.prog
      obtain ⟨w5, rfl⟩ : ∃ w5, w5 = wr := ⟨_, rfl⟩
      have HBl := hid (((Below.refl w5.heap.size w5).alloc (Nat.le_refl _) (.cells (Try.zeroCells69.setIfInBounds 0 (.int .i64 o)) 69)).alloc (by simp) (.map #[] 0))
      clear hlt hi1 hgi
      go_wp2_with fail
      generalize ((w5.alloc (.cells (Try.zeroCells69.setIfInBounds 0 (.int .i64 o)) 69)).alloc (.map #[] 0)) = w6 at *
      generalize hgt : w5.heap.size = gt at *
      go_loopg [42] 4352 (fun kx s42 wr => ∃ (p n : Nat) (bv : Value) (bs : List (Nat → Int)) (fs : Nat → Nat) (D : DataW (TypeId × Value)), s42 = .int .i64 p ∧ p ≤ 4352 ∧ 4352 - p ≤ kx ∧ n ≤ p ∧ Hid (TrI w5 wr gt (gt + 1) o (fun q k => specN E o i ((q : Int) * 256 + k)) p n bv bs fs D))
      case atStart => exact ⟨0, 0, _, _, _, _, rfl, Nat.zero_le _, Nat.le_refl _, Nat.le_refl _, HT.out⟩
      case round =>
        obtain ⟨p, n, bv, bs, fs, D, rfl, hp1, hgp, hnp, HT⟩ := hrel
        obtain ⟨wo, rfl⟩ : ∃ wo, wo = wr := ⟨_, rfl⟩
        by_cases hlt : p < 4352
        · have hlt' : (p : Int) < 4352 := by omega
          have HAT := hid (trat_any w3 w3.heap.size le cap i p E o s pv wo HE3.out (HB.out.below (by rw [hgt]; have := HT.out.bel; rw [hgt] at this; exact this) HB.out.bel.size) HP.out hn (fun k hk x hx => right_ok (HK.out k hk).1 x hx) (fun k hk => (HK.out k hk).2) ho hlt)
          go_wp2_with fail
          refine HAT.out.mono ?_
          rintro e w7 ⟨f, rfl, hf, hb7⟩
          have HF := hid hf
          have HT7 := hid (HT.out.below hb7)
          clear hf hb7 HAT HT
          have HQ := hid (Blk.new w7 71 Try.zeroCells71)
          go_upto_region 17 with (first
              | (refine wpList_store_row rfl 71 (.tmp 11) (.tmp 48) rfl w7.heap.size (mkA f) rfl rfl 71 _ HQ.out (by rw [mkA_size]; exact tr_info) (by rw [mkA_size]; exact Try.zeroCells71_size) (mkA_one _) ?_))
          have HW8 := hid (show Below w7.heap.size w7 ((w7.alloc (.cells Try.zeroCells71 71)).setRow w7.heap.size (mkA f)) from ⟨rfl, rfl, rfl, by simp, fun k hk => by rw [setRow_other _ _ _ _ (by omega)]; exact Below.heap_alloc _ _ _ hk⟩)
          have HX := hid (show Blk ((w7.alloc (.cells Try.zeroCells71 71)).setRow w7.heap.size (mkA f)) w7.heap.size 71 (mkA f) from setRow_heap _ _ _ _ _ _ HQ.out)
          have HT8 := hid (HT7.out.below HW8.out)
          have HRL := hid (fun k (hk : bv.ownBlock = some k) => own_lt HT7.out.row hk)
          have hqgt : w7.heap.size ≠ gt := by have := HT7.out.tl; omega
          have hqmb : w7.heap.size ≠ gt + 1 := by have := HT7.out.mp.lt; omega
          clear HQ HW8 HT7
          generalize (w7.alloc (.cells Try.zeroCells71 71)).setRow w7.heap.size (mkA f) = w8 at *
          generalize w7.heap.size = q8 at *
          have hrng := fun k (hk : k < 256) => (show 0 ≤ f k ∧ f k ≤ 255 from by rw [HF.out k hk]; exact colP_rng (fun j hj => (HK.out j hj).2) ho HP.out p _)
          obtain ⟨kl, hkl⟩ := block_key f hrng
          have HKL := hid hkl
          have HFK := hid (show ∀ k, k < 256 → f k = specN E o i ((p : Int) * 256 + k) from fun k hk => by rw [HF.out k hk]; exact HU.out p _ ⟨by omega, by omega⟩)
          clear hrng hkl
          have e22 := HT8.out.cf p hlt
          have f22 := HT8.out.fz (1 + p)
          cases hh : Maps.has D kl
          · obtain ⟨Ab, cb, rfl⟩ := owns_slice HT8.out.row
            obtain ⟨cc, hlk, hcc⟩ := tr_look HT8.out.mp HKL.out
            rw [hh] at hlk
            have hbl := HT8.out.bl
            have hwf : (Lit.int .i64 (bs.length : Int)).wf = true := by
              simp only [Lit.wf, IntKind.min, IntKind.max, IntKind.signed, IntKind.bits, Bool.and_eq_true]
              simp
              omega
            obtain ⟨w9, hmu, hm9, hg9⟩ := HT8.out.mp.update tr_keyed Try.underlying91 (by unfold maxLen; omega) HKL.out (plainElem_int (H := TypeId × Value) tr_undI hwf)
            obtain ⟨ib, hib, hiz, his, hiy⟩ := info_parts info_blk
            have hrow9 := own_kept HT8.out.row hg9 (fun k hk e => HT8.out.rm (by rw [hk, e]))
            have hq89 : Blk w9 q8 71 (mkA f) := HX.out.grown hg9 (fun e => hqmb (by injection e))
            obtain ⟨v10, w10, hap, hown, hgr, hvo⟩ := run_append_any (P := Try.prog) (w9.drew.alloc (.cells (mkA f) 71)) w5.heap.size 67 67 71 ib (.agg Try.zeroCells71) 256 256 Try.underlying67 hib hiz his hiy Try.zeroCells71_size (by decide) (.slice Ab bs.length cb) bs.length (rowOf bs) (hrow9.drew.alloc _) _ (some ⟨w9.heap.size, 0, none⟩) 1 1 (mkA f).toList (reads_mkA (Blk.new w9.drew 71 (mkA f))) (mkA_oneL f) (by unfold maxLen; omega) (by omega) (by simp; have := HT8.out.bel.size; have := hg9.size; omega)
            have hB9 := hg9.size
            obtain ⟨A10, c10, rfl⟩ := owns_slice hown
            have HADD := hid (HT8.out.add_ HKL.out hm9 hg9 hown ((grown_drew_alloc w9 (.cells (mkA f) 71) _).trans hgr) (hvo.imp id fun e => ⟨_, e, by simp; omega⟩))
            have HPUT := hid (HADD.out.put_ hlt (j := bs.length) (by simp) HFK.out)
            have e22 := HADD.out.cf p hlt
            have f22 := HADD.out.fz (1 + p)
            have hju : IntKind.u16.wrap (bs.length : Int) = (bs.length : Int) := by unfold IntKind.wrap; simp [IntKind.signed, IntKind.bits]; omega
            have c43 := HT8.out.cb
            have hb9 : w9.heap[gt]? = w8.heap[gt]? := hg9.block gt HT8.out.tl (fun e => by injection e with e; omega)
            have hgl9 : gt < (w9.drew.alloc (.cells (mkA f) 71)).heap.size := by simp; have := HT8.out.tl; omega
            have hrg := HT8.out.rg
            have c43A : (w9.drew.alloc (.cells (mkA f) 71)).cell? ⟨gt, 4353, none⟩ = some (.slice Ab bs.length cb) := by
              rw [World.cell?_alloc_lt _ _ _ (by have := HT8.out.tl; show gt < w9.heap.size; omega)]
              exact (World.cell?_of_block (a := ⟨gt, 4353, none⟩) hb9).trans c43
            have c43d : w9.drew.cell? ⟨gt, 4353, none⟩ = some (.slice Ab bs.length cb) := (World.cell?_of_block (a := ⟨gt, 4353, none⟩) hb9).trans c43
            have c43B : (w9.alloc (.cells (mkA f) 71)).cell? ⟨gt, 4353, none⟩ = some (.slice Ab bs.length cb) := by
              rw [World.cell?_alloc_lt _ _ _ (by have := HT8.out.tl; show gt < w9.heap.size; omega)]
              exact (World.cell?_of_block (a := ⟨gt, 4353, none⟩) hb9).trans c43
            have hb10 : w10.heap[gt]? = (w9.drew.alloc (.cells (mkA f) 71)).heap[gt]? := hgr.block gt hgl9 (fun e => hrg e.symm)
            have c4310 := (World.cell?_of_block (a := ⟨gt, 4353, none⟩) hb10).trans c43A
            have f4310 : w10.frozen? ⟨gt, 4353, none⟩ = false := by
              rw [blk_frozen hb10]
              have h1 := HT8.out.fz 4353
              rw [← blk_frozen hb9] at h1
              exact (blk_frozen (Below.heap_alloc w9.drew _ gt (by have := HT8.out.tl; show gt < w9.heap.size; omega))).trans h1
            have HS9 := hid (show Blk w9.drew q8 71 (mkA f) from hq89)
            have hqA : Blk (w9.drew.alloc (.cells (mkA f) 71)) q8 71 (mkA f) := Blk.alloc (w := w9.drew) hq89 _
            have HSA := hid hqA
            have hqB := hqA.grown hgr (fun e => by have := HRL.out q8 e.symm; omega)
            have HSB := hid hqB
            have HSC := hid (hqB.far (p := ⟨gt, 4353, none⟩) hqgt (.slice A10 (bs.length + 1) c10))
            have HAP := hid hap
            obtain ⟨nb, hnb⟩ : ∃ nb, nb = bs.length := ⟨_, rfl⟩
            have HNB := hid hnb
            rw [← hnb] at c43 c43A c43B c43d c4310 hju hmu HAP HPUT e22 f22 HSC
            have HE22 := hid e22
            have HF22 := hid f22
            clear hnb hap hown hgr hvo hbl hwf hm9 hg9 hrow9 hq89 hqA hqB hb9 hb10 hrg hh hcc HADD e22 f22 hB9 HT8
            go_upto_region 21 with (first
              | (refine wpList_load_row rfl 71 (.tmp 11) rfl q8 rfl 71 (mkA f) (0, 0) _ HX.out tr_und rfl (by rw [mkA_size]; exact tr_info) ?_)
              | (at_lookup; refine wpList_lookup_run rfl (m := .tmp 50) (x := .tmp 51) (t := 91) rfl rfl rfl hlk ?_)
              | (at_mapUpdate; refine wpList_mapUpdate_run rfl (m := .tmp 62) (x := .tmp 63) (v := .tmp 64) (t := 91) rfl rfl rfl rfl hmu ?_))
            refine wp_region_held_drew (S := fun w' : World => Blk w' q8 71 (mkA f)) (by kernel_rfl) HS9.out (fun hHeld => ?_)
            refine wpAnyH_take (i := 0) (v := ?hv1) rfl (by kernel_rfl) (by kernel_rfl) (by kernel_rfl) (fun _ _ _ h => h) (Or.inl ⟨by rfl, ?hy1⟩) (by assumption) ?hr1
            case hy1 => (intro w hSw; (try dsimp only at hSw); go_simp; try with_reducible rfl)
            (try simp only [Act.put, List.getElem_toArray, List.getElem_cons_zero, List.setIfInBounds_toArray, List.set_cons_zero, List.set_cons_succ])
            refine wpAnyH_take (i := 1) (v := ?hv2) rfl (by kernel_rfl) (by kernel_rfl) (by kernel_rfl) (fun _ _ _ h => h) (Or.inl ⟨by rfl, ?hy2⟩) (by assumption) ?hr2
            case hy2 => (intro w hSw; (try dsimp only at hSw); go_simp; try with_reducible rfl)
            (try simp only [Act.put, List.getElem_toArray, List.getElem_cons_zero, List.getElem_cons_succ, List.setIfInBounds_toArray, List.set_cons_zero, List.set_cons_succ])
            refine wpAnyH_take (i := 2) (v := ?hv3) rfl (by kernel_rfl) (by kernel_rfl) (by kernel_rfl) (fun _ _ _ h => h) (Or.inl ⟨by rfl, ?hy3⟩) (by assumption) ?hr3
            case hy3 => (intro w hSw; (try dsimp only at hSw); go_simp; try with_reducible rfl)
            (try simp only [Act.put, List.getElem_toArray, List.getElem_cons_zero, List.getElem_cons_succ, List.setIfInBounds_toArray, List.set_cons_zero, List.set_cons_succ])
            refine wpAnyH_take (i := 3) (v := ?hv4) rfl (by kernel_rfl) (by kernel_rfl) (by kernel_rfl) (fun _ _ _ h => h) (Or.inl ⟨by rfl, ?hy4⟩) (by assumption) ?hr4
            case hy4 => (intro w hSw; (try dsimp only at hSw); go_simp; try with_reducible rfl)
            (try simp only [Act.put, List.getElem_toArray, List.getElem_cons_zero, List.getElem_cons_succ, List.setIfInBounds_toArray, List.set_cons_zero, List.set_cons_succ])
            refine wpAnyH_take (i := 5) (v := .agg (mkL f).toArray) rfl (by kernel_rfl) (by kernel_rfl) (by kernel_rfl) (fun _ _ _ h => h) (yieldsIf_load_mid (by rfl) 71 (.tmp 11) rfl q8 0 rfl (mkL f) _ (fun w' hS => range_mkL hS) tr_und rfl (by rw [mkL_len]; exact tr_info)) (by assumption) ?_
            (try simp only [Act.put, List.getElem_toArray, List.getElem_cons_zero, List.getElem_cons_succ, List.setIfInBounds_toArray, List.set_cons_zero, List.set_cons_succ])
            refine wpAnyH_ready (rs := [4, 6]) (by kernel_rfl) (by simp) (AllReadyH.cons rfl (fun K hK => ?_) (AllReadyH.cons rfl (fun K hK => ?_) AllReadyH.nil))
            · go_wp2_with fail
              refine hK.out _ _ HS9.out (fun hHeld2 => ?_)
              clear hK K hHeld
              refine wpAnyH_ready (rs := [6]) (by kernel_rfl) (by simp) (AllReadyH.cons rfl (fun K hK => ?_) AllReadyH.nil)
              refine wp_buildSlice 67 71 1 _ rfl (mkA f) ib (.agg Try.zeroCells71) Try.underlying67 hib hiz (by rw [his]; decide) (by rw [his]; decide) (by rw [his, Array.toList_map]; exact tr_fill f _ (by rw [Array.size_map, Array.size_range])) ?_
              refine hK.out _ _ HSA.out (fun hHeld3 => ?_)
              clear hK K hHeld2
              refine wpAnyH_ready (rs := [7]) (by kernel_rfl) (by simp) (AllReadyH.cons rfl (fun K hK => ?_) AllReadyH.nil)
              refine wp_append_runT (sl := .tmp 69) (x := .tmp 71) (t := 67) (ty := 67) (v := .slice Ab nb cb) (u := .slice (some ⟨w9.heap.size, 0, none⟩) 1 1) (by kernel_rfl) (by kernel_rfl) (by kernel_rfl) (by kernel_rfl) HAP.out ?_
              refine hK.out _ _ HSB.out (fun hHeld4 => ?_)
              clear hK K hHeld3
              refine wpAnyH_take (i := 8) (v := ?hv5) rfl (by kernel_rfl) (by kernel_rfl) (by kernel_rfl) (fun _ _ _ h => h) (Or.inl ⟨by rfl, ?hy5⟩) (by assumption) ?hr5
              case hy5 => (intro w hSw; (try dsimp only at hSw); go_simp; try with_reducible rfl)
              (try simp only [Act.put, List.getElem_toArray, List.getElem_cons_zero, List.getElem_cons_succ, List.setIfInBounds_toArray, List.set_cons_zero, List.set_cons_succ])
              refine wpAnyH_take (i := 9) (v := ?hv6) rfl (by kernel_rfl) (by kernel_rfl) (by kernel_rfl) (fun _ _ _ h => h) (Or.inl ⟨by rfl, ?hy6⟩) (by assumption) ?hr6
              case hy6 => (intro w hSw; (try dsimp only at hSw); go_simp; try with_reducible rfl)
              (try simp only [Act.put, List.getElem_toArray, List.getElem_cons_zero, List.getElem_cons_succ, List.setIfInBounds_toArray, List.set_cons_zero, List.set_cons_succ])
              refine wpAnyH_ready (rs := [10]) (by kernel_rfl) (by simp) (AllReadyH.cons rfl (fun K hK => ?_) AllReadyH.nil)
              refine wp_store_slc 67 (.tmp 74) (.tmp 72) rfl gt 4353 A10 (nb + 1) c10 (by kernel_rfl) (by kernel_rfl) _ c4310 f4310 slc_info ?_
              refine hK.out _ _ HSC.out (fun hHeld5 => ?_)
              refine wpAnyH_done (by kernel_rfl) ?_ _
              clear hK K hHeld4 hHeld5
              have e22 := HE22.out
              have f22 := HF22.out
              clear c43 c43A c43B c43d c4310 f4310
              go_wp2_with fail
              go_roundg (4352 - (p + 1))
              case measure => omega
              case rel => exact ⟨p + 1, n + 1, _, bs ++ [f], _, _, by go_num, by omega, Nat.le_refl _, by omega, HPUT.out⟩
            · refine wp_buildSlice 67 71 1 _ rfl (mkA f) ib (.agg Try.zeroCells71) Try.underlying67 hib hiz (by rw [his]; decide) (by rw [his]; decide) (by rw [his, Array.toList_map]; exact tr_fill f _ (by rw [Array.size_map, Array.size_range])) ?_
              refine hK.out _ _ HSA.out (fun hHeld2 => ?_)
              clear hK K hHeld
              refine wpAnyH_ready (rs := [4]) (by kernel_rfl) (by simp) (AllReadyH.cons rfl (fun K hK => ?_) AllReadyH.nil)
              go_wp2_with fail
              refine hK.out _ _ HSA.out (fun hHeld3 => ?_)
              clear hK K hHeld2
              refine wpAnyH_ready (rs := [7]) (by kernel_rfl) (by simp) (AllReadyH.cons rfl (fun K hK => ?_) AllReadyH.nil)
              refine wp_append_runT (sl := .tmp 69) (x := .tmp 71) (t := 67) (ty := 67) (v := .slice Ab nb cb) (u := .slice (some ⟨w9.heap.size, 0, none⟩) 1 1) (by kernel_rfl) (by kernel_rfl) (by kernel_rfl) (by kernel_rfl) HAP.out ?_
              refine hK.out _ _ HSB.out (fun hHeld4 => ?_)
              clear hK K hHeld3
              refine wpAnyH_take (i := 8) (v := ?hv7) rfl (by kernel_rfl) (by kernel_rfl) (by kernel_rfl) (fun _ _ _ h => h) (Or.inl ⟨by rfl, ?hy7⟩) (by assumption) ?hr7
              case hy7 => (intro w hSw; (try dsimp only at hSw); go_simp; try with_reducible rfl)
              (try simp only [Act.put, List.getElem_toArray, List.getElem_cons_zero, List.getElem_cons_succ, List.setIfInBounds_toArray, List.set_cons_zero, List.set_cons_succ])
              refine wpAnyH_take (i := 9) (v := ?hv8) rfl (by kernel_rfl) (by kernel_rfl) (by kernel_rfl) (fun _ _ _ h => h) (Or.inl ⟨by rfl, ?hy8⟩) (by assumption) ?hr8
              case hy8 => (intro w hSw; (try dsimp only at hSw); go_simp; try with_reducible rfl)
              (try simp only [Act.put, List.getElem_toArray, List.getElem_cons_zero, List.getElem_cons_succ, List.setIfInBounds_toArray, List.set_cons_zero, List.set_cons_succ])
              refine wpAnyH_ready (rs := [10]) (by kernel_rfl) (by simp) (AllReadyH.cons rfl (fun K hK => ?_) AllReadyH.nil)
              refine wp_store_slc 67 (.tmp 74) (.tmp 72) rfl gt 4353 A10 (nb + 1) c10 (by kernel_rfl) (by kernel_rfl) _ c4310 f4310 slc_info ?_
              refine hK.out _ _ HSC.out (fun hHeld5 => ?_)
              refine wpAnyH_done (by kernel_rfl) ?_ _
              clear hK K hHeld4 hHeld5
              have e22 := HE22.out
              have f22 := HF22.out
              clear c43 c43A c43B c43d c4310 f4310
              go_wp2_with fail
              go_roundg (4352 - (p + 1))
              case measure => omega
              case rel => exact ⟨p + 1, n + 1, _, bs ++ [f], _, _, by go_num, by omega, Nat.le_refl _, by omega, HPUT.out⟩
          · obtain ⟨j, h, hj1, hj2, hj3⟩ := HT8.out.key f kl HKL.out hh
            have hjn : j < bs.length := (List.getElem?_eq_some_iff.1 hj2).1
            have hbl := HT8.out.bl
            have hju : IntKind.u16.wrap (j : Int) = (j : Int) := by unfold IntKind.wrap; simp [IntKind.signed, IntKind.bits]; omega
            have HPUT := hid (HT8.out.put_ hlt hj2 (fun k hk => (mkA_inj hj3 k hk).trans (HFK.out k hk)))
            obtain ⟨cc, hlk, hcc⟩ := tr_look HT8.out.mp HKL.out
            have hcj := hcc.symm.trans hj1
            injection hcj with hcj
            injection hcj with _ hcj
            subst hcj
            rw [hh] at hlk
            clear hj1 hj2 hj3 hjn hbl hcc hh HT8
            go_wp2_with (first
              | (refine wpList_load_row rfl 71 (.tmp 11) rfl q8 rfl 71 (mkA f) (0, 0) _ HX.out tr_und rfl (by rw [mkA_size]; exact tr_info) ?_)
              | (at_lookup; refine wpList_lookup_run rfl (m := .tmp 50) (x := .tmp 51) (t := 91) rfl rfl rfl hlk ?_))
            go_roundg (4352 - (p + 1))
            case measure => omega
            case rel => exact ⟨p + 1, n, bv, bs, _, D, by go_num, by omega, Nat.le_refl _, by omega, HPUT.out⟩
        · have hlt' : ¬ (p : Int) < 4352 := by omega
          obtain rfl : p = 4352 := by omega
          have HD := hid (HT.out.done hnp)
          have HBB := hid (((HB3.out.trans (HB.out.bel.mono HB3.out.size))).trans (HT.out.bel.mono (Nat.le_trans HB3.out.size HB.out.bel.size)))
          clear hlt hp1 hgp
          go_wp2_with fail
          go_ret2
          exact ⟨gt, rfl, HD.out, HBB.out⟩
end Go.Proofs.Ytbkjanlkklmleaa
