/- Chapter 19: token.At: the walk. -/
import Derived.Test.YtlfbgaknljdanaaGreatDoorTkF
import Derived.Test.YtlfbgaknljdanaaGreatDoorTkP3
namespace Go.Proofs.YtlfbgaknljdanaaGreatDoor
open Go.RowKit Go.Shelf
open Go.Lib (hid)
attribute [local go_sem] Oper.semAt_some
set_option linter.unusedVariables false
set_option maxRecDepth 100000

def hasT (i : Int) (t : Tk) : Prop := (t.fr : Int) ≤ i ∧ i < (t.til : Int)
/-- What token.At answers: the first token that has the byte. -/
def AtPost (s : ByteArray) (i : Int) (w : World) (e : Ending) (w' : World) : Prop :=
  ((∃ t A C, toks s = A ++ t :: C ∧ (∀ y ∈ A, ¬ hasT i y) ∧ hasT i t ∧ e = .returned (.tuple #[.agg (tkC t), .bool true])) ∨
   ((∀ y ∈ toks s, ¬ hasT i y) ∧ e = .returned (.tuple #[.agg tk0, .bool false]))) ∧ Below w.heap.size w w'
theorem blk_own {α : Type} (B g : Nat) (t : TypeId) (cs : Array Value) : OwnFrom B (fun (_ : α) W => Blk W g t cs) := fun s X Y row hs hg hr => by
  refine (hg.block g hs.lt (fun e => ?_)).trans hs
  obtain ⟨_, o, ho, hc⟩ := hr g e.symm
  have hs' : X.heap[g]? = _ := hs
  rw [hs'] at ho
  cases ho
  cases hc
theorem results_row_cell {P : Program} {fn : Func} {p q : Tmp} {ty ty2 : TypeId} (h : fn.results = #[.cell p ty, .cell q ty2]) (tmps : Array Value) (w : World) (g : Nat) (t : TypeId) (cs : Array Value) (fr : Nat × Nat) (d : TypeDesc) (g2 : Nat) (u : Value)
    (hp : tmps.getD p undef = .pointer (some ⟨g, 0, none⟩)) (hg : w.heap[g]? = some (.cells cs t fr))
    (hu : P.underlying ty = some d) (hd : (match d with | .struct _ | .array _ _ => true | _ => false) = true) (hi : (P.info? ty).map (·.size) = some cs.size)
    (hq : tmps.getD q undef = .pointer (some ⟨g2, 0, none⟩)) (hl : (loadVar ty2 ⟨g2, 0, none⟩).run P w = .ok u w) :
    (results fn tmps).run P w = .ok (.tuple #[.agg cs, u]) w := by
  have hp' : tmps[p]?.getD undef = .pointer (some ⟨g, 0, none⟩) := by simpa using hp
  have hq' : tmps[q]?.getD undef = .pointer (some ⟨g2, 0, none⟩) := by simpa using hq
  simp [results, h, hp', hq', asAddr, run_loadVar_row w g t ty cs fr d hg hu hd hi, hl]
theorem sSet_keeps {w : World} {r : Nat} {k f t : Int} {nm : ByteArray} {z : Int} {sg : Bool} : KeepsOthers w (sSet w r k f t nm z sg) :=
  (((((KeepsOthers.setCell _ _ _).trans (KeepsOthers.setCell _ _ _)).trans (KeepsOthers.setCell _ _ _)).trans (KeepsOthers.setCell _ _ _)).trans (KeepsOthers.setCell _ _ _)).trans (KeepsOthers.setCell _ _ _)
theorem sSet_boxed {w : World} {r g : Nat} {k f t : Int} {nm : ByteArray} {z : Int} {sg : Bool} {ty : TypeId} {v : Value} (h : Boxed w g ty v) (hne : r ≠ g) : Boxed (sSet w r k f t nm z sg) g ty v := by
  have hs : ∀ (W : World) (j : Nat) (u : Value), Boxed W g ty v → Boxed (W.setCell ⟨r, j, none⟩ u) g ty v := fun W j u hW => (Below.heap_setCell W ⟨r, j, none⟩ u g (fun e => hne e.symm)).trans hW
  unfold sSet
  exact hs _ _ _ (hs _ _ _ (hs _ _ _ (hs _ _ _ (hs _ _ _ (hs _ _ _ h)))))
def atTmps (a : Option Addr) (len cap : Nat) (i : Int) (B Bn Bx : Nat) (x : Value) : Array Value :=
  #[.slice a len cap, .int .i64 i, undef, .pointer (some ⟨B, 0, none⟩), .pointer (some ⟨B + 1, 0, none⟩), .pointer (some ⟨B + 1 + 1, 0, none⟩), .pointer (some ⟨Bx, 0, none⟩), .slice a len cap, .func (.func 51) #[] #[.pointer (some ⟨Bn, 0, none⟩)], x, undef, undef, undef, undef, undef, undef, undef, undef, undef, undef, undef, undef]
set_option maxHeartbeats 8000000 in
theorem tokAt_any (a : Option Addr) (len cap : Nat) (s : ByteArray) (i : Int) (w : World) (hba : BA w a len cap s) (hmx : Mx w) (hm : len ≤ 1000000) :
    Calls Tryz.prog 22 #[.slice a len cap, .int .i64 i] w (AtPost s i w) := by
  have HLS := hid hba.1
  refine (callsIn_wide (n := 6)).1 ?_
  refine callsIn_of_wp_marks Tryz.func22 rfl trivial ?_ rfl
  simp only [Tryz.ntmps22, List.size_toArray, List.length_cons, List.length_nil, Nat.reduceAdd, Nat.reduceSub, Array.replicate_succ, Array.replicate_zero, List.push_toArray, List.append_toArray, List.nil_append, List.cons_append]
  have HT := hid (fun W => tokens_any (.slice a len cap) a len cap rfl W)
  gi_wp2_with fail
  refine ⟨trivial, (callsIn_wide.2 (HT.out _)).mono ?_⟩
  rintro e w' ⟨rfl, rfl⟩
  gi_wp2_with fail
  have b0 := (((Boxed.new w 3 (.int .i64 i)).alloc (.cells tk0 30)).alloc (.cells #[.bool false] 4)).alloc (.cells #[.slice a len cap] 22)
  have b1 := ((Blk.new (w.alloc (.cells #[.int .i64 i] 3)) 30 tk0).alloc (.cells #[.bool false] 4)).alloc (.cells #[.slice a len cap] 22)
  have b2 := (Boxed.new ((w.alloc (.cells #[.int .i64 i] 3)).alloc (.cells tk0 30)) 4 (.bool false)).alloc (.cells #[.slice a len cap] 22)
  have bN := Boxed.new (((w.alloc (.cells #[.int .i64 i] 3)).alloc (.cells tk0 30)).alloc (.cells #[.bool false] 4)) 22 (.slice a len cap)
  simp only [World.size_alloc] at b1 b2 bN
  have hB0 : Below w.heap.size w ((((w.alloc (.cells #[.int .i64 i] 3)).alloc (.cells tk0 30)).alloc (.cells #[.bool false] 4)).alloc (.cells #[.slice a len cap] 22)) :=
    ((((Below.refl _ w).alloc (Nat.le_refl _) _).alloc (by simp) _).alloc (by simp; omega) _).alloc (by simp; omega) _
  have hsz : ((((w.alloc (.cells #[.int .i64 i] 3)).alloc (.cells tk0 30)).alloc (.cells #[.bool false] 4)).alloc (.cells #[.slice a len cap] 22)).heap.size = w.heap.size + 4 := by simp
  simp only [tk0] at b0 b1 b2 bN hB0 hsz
  generalize (((w.alloc (.cells #[.int .i64 i] 3)).alloc (.cells #[.int .i64 0, .int .i64 0, .int .i64 0, .string ⟨#[]⟩, .int .i32 0, .bool false] 30)).alloc (.cells #[.bool false] 4)).alloc (.cells #[.slice a len cap] 22) = W0 at *
  refine wpIn_rangeFunc_ownH rfl (by omega) (gf := 51) (lb := #[.pointer (some ⟨w.heap.size + 1 + 1 + 1, 0, none⟩)]) rfl trivial (enters_of Tryz.func51 (by kernel_rfl) rfl)
    (tokens_stops _ (w.heap.size + 1 + 1 + 1) w.heap.size a len cap s W0 (by omega) (by omega) bN.cell HLS.out hm (fun A hA => ⟨hba.below (hB0.trans hA) (Nat.le_refl _), hmx.below (hB0.trans hA) (Nat.le_refl _)⟩)) (fun h k => h.trans k) (KpT.putObj (by omega) (by omega)) (Below.refl _ _) (fun _ => rfl)
    (fun pre W => ((∀ y ∈ pre, ¬ hasT i y.1) ∧ (Boxed W w.heap.size 3 (.int .i64 i) ∧ (Blk W (w.heap.size + 1) 30 tk0 ∧ (Boxed W (w.heap.size + 1 + 1) 4 (.bool false) ∧ Boxed W (w.heap.size + 1 + 1 + 1) 22 (.slice a len cap))))) ∧ Below w.heap.size w W)
    (fun c pre W => (c = .ret ∧ ∃ A x, (pre = A ++ [x] ∧ (∀ y ∈ A, ¬ hasT i y.1) ∧ hasT i x.1) ∧ Blk W (w.heap.size + 1) 30 (tkC x.1) ∧ Boxed W (w.heap.size + 1 + 1) 4 (.bool true)) ∧ Below w.heap.size w W)
    (OwnFrom.and (OwnFrom.and (fun _ _ _ _ hs _ _ => hs) (OwnFrom.and (Own.from (boxed_own _ _ _) _) (OwnFrom.and (blk_own _ _ _ _) (OwnFrom.and (Own.from (boxed_own _ _ _) _) (Own.from (boxed_own _ _ _) _))))) (ownFrom_below (Nat.le_refl _) (by omega)))
    (fun c => OwnFrom.and (fun s X Y row hs hg hr => by
      obtain ⟨h1, A, x, h2, h3, h4⟩ := hs
      exact ⟨h1, A, x, h2, blk_own (α := Unit) _ _ _ _ () X Y row h3 hg hr, boxed_own _ _ (fun (_ : Unit) => _) () X Y row h4 hg (fun r e => (hr r e).2)⟩) (ownFrom_below (Nat.le_refl _) (by omega)))
    ⟨⟨by simp, b0, b1, b2, bN⟩, hB0⟩
    (fun x a' W => ∃ Bx, w.heap.size + 1 + 1 + 1 < Bx ∧ W.heap[Bx]? = some (.cells (tkC x.1) 30 (0, 0)) ∧ a' = { tmps := atTmps a len cap i w.heap.size (w.heap.size + 1 + 1 + 1) Bx (encTk x.1), defers := [] })
    (fun x a' _ X Y row hs hg hr => by
      obtain ⟨Bx, h1, h2, h3⟩ := hs
      refine ⟨Bx, h1, ?_, h3⟩
      refine (hg.block Bx (Array.getElem?_eq_some_iff.1 h2).1 (fun e => ?_)).trans h2
      obtain ⟨_, o, ho, hc⟩ := hr Bx e.symm
      rw [h2] at ho
      cases ho
      cases hc)
    ?assign ?body ?done ?stop
  case assign =>
    rintro l pre x W K ⟨⟨hp, hv, hv1, hv2, hbn⟩, hB⟩ hK
    have HP := hid hp
    have HK := hid hK
    have HV := hid hv
    have HV1 := hid hv1
    have HV2 := hid hv2
    have HBN := hid hbn
    have HB := hid hB
    have hlt := hbn.lt
    clear hp hK hv hv1 hv2 hbn hB
    simp only [encsTk, encTk, tkC]
    gi_wp2
    have hbl := (Below.refl W.heap.size W).alloc (Nat.le_refl _) (.cells (tkC x.1) 30)
    exact HK.out _ _ ((KeepsOthers.alloc _ _).from _) (KpT.of_below hbl HB.out.size (by omega)) ⟨⟨HP.out, HV.out.alloc _, HV1.out.alloc _, HV2.out.alloc _, HBN.out.alloc _⟩, HB.out.alloc HB.out.size _⟩
      ⟨W.heap.size, hlt, World.alloc_heap_new W _, rfl⟩
  case body =>
    rintro l pre x a' W hl ⟨rc, hrc⟩ ⟨⟨hp, hv, hv1, hv2, hbn⟩, hB⟩ ⟨Bx, hBx, bX, rfl⟩ hlt
    have hc := hv.cell
    have hc2 := hv2.cell
    have hf1 := hv1.frozen
    have hf2 := hv2.frozen
    have bX' : Blk W Bx 30 (tkC x.1) := bX
    have x0 := bX'.cell 0
    have x1 := bX'.cell 1
    have x2 := bX'.cell 2
    have x3 := bX'.cell 3
    have x4 := bX'.cell 4
    have x5 := bX'.cell 5
    have r0 := hv1.cell 0
    have r1 := hv1.cell 1
    have r2 := hv1.cell 2
    have r3 := hv1.cell 3
    have r4 := hv1.cell 4
    have r5 := hv1.cell 5
    simp only [tkC, tk0, List.getElem?_toArray, List.getElem?_cons_zero, List.getElem?_cons_succ] at x0 x1 x2 x3 x4 x5 r0 r1 r2 r3 r4 r5
    have HBN := hid hbn
    have HB := hid hB
    have HV := hid hv
    have HV1 := hid hv1
    have HV2 := hid hv2
    have HP := hid hp
    have HXT := hid (show hasT i x.1 ↔ (x.1.fr : Int) ≤ i ∧ i < (x.1.til : Int) from Iff.rfl)
    have HXC := hid (show tkC x.1 = #[.int .i64 x.1.kind, .int .i64 x.1.fr, .int .i64 x.1.til, .string x.1.name, .int .i32 x.1.r, .bool x.1.single] from rfl)
    clear hp hbn hB hv hv1 hv2 bX bX' hrc hlt
    unfold atTmps encTk
    simp only [tkC]
    by_cases hx1 : (x.1.fr : Int) ≤ i
    · by_cases hx2 : i < (x.1.til : Int)
      · have HIN := hid (HXT.out.2 ⟨hx1, hx2⟩)
        clear hl
        gi_wp2
        have HX1 := hid (((sSet_keeps (w := W) (r := w.heap.size + 1) (k := x.1.kind) (f := x.1.fr) (t := x.1.til) (nm := x.1.name) (z := x.1.r) (sg := x.1.single)).trans (KeepsOthers.setCell _ ⟨w.heap.size + 1 + 1, 0, none⟩ (.bool true))).from W0.heap.size)
        have HX2 := hid ((sSet_blk (k := x.1.kind) (f := x.1.fr) (t := x.1.til) (nm := x.1.name) (z := x.1.r) (sg := x.1.single) HV1.out).far (p := ⟨w.heap.size + 1 + 1, 0, none⟩) (by show w.heap.size + 1 ≠ w.heap.size + 1 + 1; omega) (.bool true))
        have HX3 := hid ((sSet_boxed (k := x.1.kind) (f := x.1.fr) (t := x.1.til) (nm := x.1.name) (z := x.1.r) (sg := x.1.single) HV2.out (r := w.heap.size + 1) (by omega)).set (.bool true))
        have HX4 := hid ((sSet_below (k := x.1.kind) (f := x.1.fr) (t := x.1.til) (nm := x.1.name) (z := x.1.r) (sg := x.1.single) (r := w.heap.size + 1) (by omega) HB.out).setCell (p := ⟨w.heap.size + 1 + 1, 0, none⟩) (by show w.heap.size ≤ w.heap.size + 1 + 1; omega) (.bool true))
        exact ⟨HX1.out, ⟨rfl, pre, x, ⟨rfl, HP.out, HIN.out⟩, HX2.out, HX3.out⟩, HX4.out⟩
      · have HNO := hid (fun h => hx2 (HXT.out.1 h).2)
        clear hl
        gi_wp2
        refine ⟨KeepsFrom.refl _ _, KpT.refl _ _ _, ⟨?_, HV.out, HV1.out, HV2.out, HBN.out⟩, HB.out⟩
        have hnew : ∀ y ∈ pre ++ [x], ¬ hasT i y.1 := by
          intro y hy
          rcases List.mem_append.1 hy with h | h
          · exact HP.out y h
          · simp at h; subst h; exact HNO.out
        first
          | exact hnew
          | exact fun y hy hm => hnew ⟨y, hy⟩ hm
    · have HNO := hid (fun h => hx1 (HXT.out.1 h).1)
      clear hl
      gi_wp2
      refine ⟨KeepsFrom.refl _ _, KpT.refl _ _ _, ⟨?_, HV.out, HV1.out, HV2.out, HBN.out⟩, HB.out⟩
      have hnew : ∀ y ∈ pre ++ [x], ¬ hasT i y.1 := by
        intro y hy
        rcases List.mem_append.1 hy with h | h
        · exact HP.out y h
        · simp at h; subst h; exact HNO.out
      first
        | exact hnew
        | exact fun y hy hm => hnew ⟨y, hy⟩ hm
  case done =>
    rintro D ys W hD rfl ⟨⟨hp, hv, hv1, hv2, hbn⟩, hB⟩ hK
    have HNO := hid (show ∀ y ∈ toks s, ¬ hasT i y from fun y hy => hp ⟨y, hy⟩ (List.mem_attach _ _))
    have r0 := hv1.cell 0
    have r1 := hv1.cell 1
    have r2 := hv1.cell 2
    have r3 := hv1.cell 3
    have r4 := hv1.cell 4
    have r5 := hv1.cell 5
    simp only [tk0, List.getElem?_toArray, List.getElem?_cons_zero, List.getElem?_cons_succ] at r0 r1 r2 r3 r4 r5
    have hf1 := hv1.frozen
    have hf2 := hv2.frozen
    have hc2 := hv2.cell
    have HV1 := hid hv1
    have HV2 := hid hv2
    have HB := hid hB
    clear hp hv hv1 hv2 hbn hB
    gi_wp2
    have HX2 := hid ((sSet_blk (k := 0) (f := 0) (t := 0) (nm := ⟨#[]⟩) (z := 0) (sg := false) HV1.out).far (p := ⟨w.heap.size + 1 + 1, 0, none⟩) (by show w.heap.size + 1 ≠ w.heap.size + 1 + 1; omega) (.bool false))
    have HX3 := hid ((sSet_boxed (k := 0) (f := 0) (t := 0) (nm := ⟨#[]⟩) (z := 0) (sg := false) HV2.out (r := w.heap.size + 1) (by omega)).set (.bool false))
    have HX4 := hid ((sSet_below (k := 0) (f := 0) (t := 0) (nm := ⟨#[]⟩) (z := 0) (sg := false) (r := w.heap.size + 1) (by omega) HB.out).setCell (p := ⟨w.heap.size + 1 + 1, 0, none⟩) (by show w.heap.size ≤ w.heap.size + 1 + 1; omega) (.bool false))
    have hK2 : ((sSet W (w.heap.size + 1) 0 0 0 ⟨#[]⟩ 0 false).setCell ⟨w.heap.size + 1 + 1, 0, none⟩ (.bool false)).heap[D]? = some (.deferred (some [])) := by
      have hs : ∀ (V : World) (g j : Nat) (u : Value), g ≠ D → V.heap[D]? = some (.deferred (some [])) → (V.setCell ⟨g, j, none⟩ u).heap[D]? = some (.deferred (some [])) := fun V g j u hg hV => (Below.heap_setCell V ⟨g, j, none⟩ u D (fun e => hg e.symm)).trans hV
      unfold sSet
      exact hs _ _ _ _ (by omega) (hs _ _ _ _ (by omega) (hs _ _ _ _ (by omega) (hs _ _ _ _ (by omega) (hs _ _ _ _ (by omega) (hs _ _ _ _ (by omega) (hs _ _ _ _ (by omega) hK))))))
    change bodyPostM _ _ _ _ _ _ _ ((sSet W (w.heap.size + 1) 0 0 0 ⟨#[]⟩ 0 false).setCell ⟨w.heap.size + 1 + 1, 0, none⟩ (.bool false))
    generalize (sSet W (w.heap.size + 1) 0 0 0 ⟨#[]⟩ 0 false).setCell ⟨w.heap.size + 1 + 1, 0, none⟩ (.bool false) = W2 at *
    refine ⟨by simp, .inl ⟨_, _, rfl, run_takeDeferred hK2, ?_⟩⟩
    have hd1 : (W2.putObj D (.deferred none)).heap[w.heap.size + 1]? = some (.cells tk0 30 (0, 0)) := (World.putObj_heap_other (by omega)).trans HX2.out
    have hd2 : (W2.putObj D (.deferred none)).cell? ⟨w.heap.size + 1 + 1, 0, none⟩ = some (.bool false) := (World.cell?_of_block (a := ⟨w.heap.size + 1 + 1, 0, none⟩) (World.putObj_heap_other (by show w.heap.size + 1 + 1 ≠ D; omega))).trans HX3.out.cell
    exact ⟨.tuple #[.agg tk0, .bool false], results_row_cell rfl _ _ (w.heap.size + 1) _ _ _ _ (w.heap.size + 1 + 1) (.bool false) rfl hd1 Tryz.underlying30 rfl (by kernel_rfl) rfl (by go_simp), .inr ⟨HNO.out, rfl⟩, HX4.out.trans (belowK_b (w := w) (Nat.le_refl _) _ D _ _ (by omega) hK2 rfl rfl)⟩
  case stop =>
    rintro D c pre W hD ⟨rest, hpre⟩ ⟨⟨rfl, A, x, ⟨rfl, hA, hx⟩, hv1, hv2⟩, hB⟩ hK
    have HIN := hid (show ∃ C, toks s = A.map (·.1) ++ x.1 :: C ∧ ∀ y ∈ A.map (·.1), ¬ hasT i y from by
      refine ⟨rest.map (·.1), ?_, fun y hy => ?_⟩
      · have h := congrArg (List.map (·.1)) hpre
        simp at h
        exact h.symm
      · obtain ⟨z, hz, rfl⟩ := List.mem_map.1 hy
        exact hA z hz)
    have HV1 := hid hv1
    have HV2 := hid hv2
    have HB := hid hB
    have HXX := hid hx
    have HKK := hid hK
    clear hpre hB hv1 hv2 hA hx
    gi_wp2
    refine ⟨by simp, .inl ⟨_, _, rfl, run_takeDeferred hK, ?_⟩⟩
    have hd1 : (W.putObj D (.deferred none)).heap[w.heap.size + 1]? = some (.cells (tkC x.1) 30 (0, 0)) := (World.putObj_heap_other (by omega)).trans HV1.out
    have hd2 : (W.putObj D (.deferred none)).cell? ⟨w.heap.size + 1 + 1, 0, none⟩ = some (.bool true) := (World.cell?_of_block (a := ⟨w.heap.size + 1 + 1, 0, none⟩) (World.putObj_heap_other (by show w.heap.size + 1 + 1 ≠ D; omega))).trans HV2.out.cell
    refine ⟨.tuple #[.agg (tkC x.1), .bool true], results_row_cell rfl _ _ (w.heap.size + 1) _ _ _ _ (w.heap.size + 1 + 1) (.bool true) rfl hd1 Tryz.underlying30 rfl (by kernel_rfl) rfl (by go_simp), ?_, HB.out.trans (belowK_b (w := w) (Nat.le_refl _) _ D _ _ (by omega) hK rfl rfl)⟩
    obtain ⟨C, h1, h2⟩ := HIN.out
    exact .inl ⟨x.1, A.map (·.1), C, h1, h2, HXX.out, rfl⟩
end Go.Proofs.YtlfbgaknljdanaaGreatDoor
