/- Walk of scalar.All. -/
import Derived.Test.YtbkjanlkklmleaaDoorProg
import Derived.Test.YtbkjanlkklmleaaDoorPieces
namespace Go.Proofs.YtbkjanlkklmleaaDoor
open Go.RowKit Go.Shelf
open Go.Lib (hid)
attribute [local go_sem] Oper.semAt_some

theorem info_i32 : (Tryd.prog.info? 21).map (fun i => (i.zero, i.size, i.bytes)) = some (some (.int .i32 0), 1, 4) := by kernel_rfl

/-- The scalars of pieces. -/
def rsOf {zs : List Int} (pre : List (PcOf zs)) : List Int := pre.map (·.1.r)

theorem rsOf_snoc {zs : List Int} (pre : List (PcOf zs)) (x : PcOf zs) : rsOf (pre ++ [x]) = rsOf pre ++ [x.1.r] := by simp [rsOf]
theorem rsOf_all (zs : List Int) : rsOf (pcs zs).attach = (pcs zs).map (·.r) := by
  unfold rsOf
  rw [show (fun x : PcOf zs => x.1.r) = (fun p : Pc => p.r) ∘ (fun x : PcOf zs => x.1) from rfl, ← List.map_map]
  simp
theorem rsOf_len {zs : List Int} (pre : List (PcOf zs)) : (rsOf pre).length = pre.length := by simp [rsOf]

/-- A list of scalars that the call has made. -/
def Made32 (n₀ : Nat) (W : World) (v : Value) (l : List Int) : Prop := W.ownsRow n₀ 21 1 v l.length (l.map (Value.int .i32)) ∧ (v = .slice none 0 0 ↔ l = [])

def pcTmps (a : Option Addr) (len cap BO Bn Bx : Nat) (x : Value) : Array Value :=
  #[.slice a len cap, undef, .slice none 0 0, .pointer (some ⟨BO, 0, none⟩), .pointer (some ⟨Bx, 0, none⟩), .slice a len cap, .func (.func 26) #[] #[.pointer (some ⟨Bn, 0, none⟩)], x, undef, undef, undef, undef, undef, undef]

set_option maxRecDepth 100000 in
set_option maxHeartbeats 4000000 in
theorem all_any (a : Option Addr) (cap : Nat) (zs : List Int) (w : World) (hs : SB w a cap zs) (hbig : zs.length ≤ 1000000) :
    Calls Tryd.prog 9 #[.slice a zs.length cap] w fun e W' => ∃ v, e = .returned v ∧ Made32 w.heap.size W' v ((pcs zs).map (·.r)) ∧ Below w.heap.size w W' := by
  obtain ⟨i0, hi, hz0, hz1, hz2⟩ := info_parts info_i32
  have hlen := pcs_length zs
  refine (callsIn_wide (n := 6)).1 ?_
  refine callsIn_of_wp_marks Tryd.func9 rfl trivial ?_ rfl
  simp only [Tryd.ntmps9, List.size_toArray, List.length_cons, List.length_nil, Nat.reduceAdd, Nat.reduceSub, Array.replicate_succ, Array.replicate_zero, List.push_toArray, List.append_toArray, List.nil_append, List.cons_append]
  gi_wp2_with fail
  refine ⟨trivial, (callsIn_wide.2 (pieces_any _ a zs.length cap rfl _)).mono ?_⟩
  rintro e w' ⟨rfl, rfl⟩
  gi_wp2_with fail
  have bO := (Boxed.new w 30 (.slice none 0 0)).alloc (.cells #[.slice a zs.length cap] 28)
  have bN := Boxed.new (w.alloc (.cells #[.slice none 0 0] 30)) 28 (.slice a zs.length cap)
  rw [World.size_alloc] at bN
  have hB0 : Below w.heap.size w ((w.alloc (.cells #[.slice none 0 0] 30)).alloc (.cells #[.slice a zs.length cap] 28)) := ((Below.refl _ w).alloc (Nat.le_refl _) _).alloc (by simp) _
  have hsz : ((w.alloc (.cells #[.slice none 0 0] 30)).alloc (.cells #[.slice a zs.length cap] 28)).heap.size = w.heap.size + 2 := by simp
  generalize (w.alloc (.cells #[.slice none 0 0] 30)).alloc (.cells #[.slice a zs.length cap] 28) = W0 at *
  refine wpIn_rangeFunc_ownH rfl (by omega) (gf := 26) (lb := #[.pointer (some ⟨w.heap.size + 1, 0, none⟩)]) rfl trivial (enters_of Tryd.func26 (by kernel_rfl) rfl)
    (pieces_stops _ (w.heap.size + 1) w.heap.size a cap zs W0 (by omega) (by omega) bN.cell (hs.below hB0 (Nat.le_refl _)) hs.none_lt) (fun h k => h.trans k) (KpB.putObj (by omega) (by omega)) (Below.refl _ _) (fun _ => rfl)
    (fun pre W => ((∃ v, Boxed W w.heap.size 30 v ∧ W.ownsRow w.heap.size 21 1 v (rsOf pre).length ((rsOf pre).map (Value.int .i32)) ∧ (v = .slice none 0 0 ↔ rsOf pre = [])) ∧ Boxed W (w.heap.size + 1) 28 (.slice a zs.length cap)) ∧ Below w.heap.size w W)
    (fun _ _ _ => False)
    (OwnFrom.and (OwnFrom.and (Own.from (holdsRow_own w.heap.size w.heap.size 30 21 1 (fun pre => (rsOf pre).length) (fun pre => (rsOf pre).map (Value.int .i32)) (fun pre v => v = .slice none 0 0 ↔ rsOf pre = [])) _) (Own.from (boxed_own _ _ _) _)) (ownFrom_below (Nat.le_refl _) (by omega)))
    (fun _ _ _ _ _ hs _ _ => hs)
    ⟨⟨⟨_, bO, World.ownsRow_nil _ _ _ _, by simp [rsOf]⟩, bN⟩, hB0⟩
    (fun x a' W => ∃ Bx, w.heap.size + 1 < Bx ∧ W.heap[Bx]? = some (.cells #[.int .i64 x.1.at_, .int .i64 x.1.size, .int .i32 x.1.r, .bool x.1.whole] 46 (0, 0)) ∧ a' = { tmps := pcTmps a zs.length cap w.heap.size (w.heap.size + 1) Bx (encPc x.1), defers := [] })
    (fun x a' _ X Y row hs hg hr => by
      obtain ⟨Bx, h1, h2, h3⟩ := hs
      refine ⟨Bx, h1, ?_, h3⟩
      refine (hg.block Bx (Array.getElem?_eq_some_iff.1 h2).1 (fun e => ?_)).trans h2
      obtain ⟨_, o, ho, hc⟩ := hr Bx e.symm
      rw [h2] at ho
      cases ho
      cases hc)
    ?assign ?body ?done ?stop
  case assign =>
    rintro l pre x W K ⟨⟨⟨v, hv, hrow, hnil⟩, hbn⟩, hB⟩ hK
    simp only [encsPc, encPc]
    gi_wp2
    have hsw := hB.size
    have hlt := hbn.lt
    exact hK _ _ ((KeepsOthers.alloc _ _).from _) (KpB.of_below ((Below.refl W.heap.size W).alloc (Nat.le_refl _) _) (by omega) hlt) ⟨⟨⟨v, hv.alloc _, hrow.alloc _, hnil⟩, hbn.alloc _⟩, hB.alloc (by omega) _⟩
      ⟨W.heap.size, hlt, World.alloc_heap_new W _, rfl⟩
  case body =>
    rintro l pre x a' W hl ⟨rc, hrc⟩ ⟨⟨⟨v, hv, hrow, hnil⟩, hbn⟩, hB⟩ ⟨Bx, hBx, bX, rfl⟩ hlt
    have hc := hv.cell
    have hcx : W.cell? ⟨Bx, 2, none⟩ = some (.int .i32 x.1.r) := by rw [cell_of_row _ _ _ _ _ _ bX]; rfl
    have hrl := rsOf_len pre
    have hsw := hB.size
    have hbl := hbn.lt
    have HBN := hid hbn
    have HB := hid hB
    have HNIL := hid hnil
    have hk1 : (rsOf pre).length + 1 ≤ 1000000 := by omega
    have hne : 30 ≠ 21 := by decide
    have HV := hid hv
    have HROW := hid hrow
    generalize hX : x.1.r = r at *
    have HX := hid hX
    clear hX hrl hlt hlen hbig hB hbn hnil hv hrow bX
    unfold pcTmps encPc
    gi_wp2_with (gi_at_builtin; refine wpListIn_append_own _ rfl _ _ 30 rfl w.heap.size 21 i0 (.int .i32 0) 1 4 Tryd.underlying30 hi hz0 hz1 hz2 rfl (by decide) _ _ _ rfl (HROW.out.alloc _) ⟨W.heap.size, 0, none⟩ 1 1 [.int .i32 r] rfl rfl (cell_one_new _ _ _) (by simp [Value.oneCell']) (by unfold maxLen; omega) (by omega) (by simp; omega) ?_; intro v' w1 hown' hgrow _; obtain ⟨g', cap', rfl⟩ := ownsRow_succ hown'; obtain ⟨hv1, hv2, hr2, hk2, hb2⟩ := HV.out.appended hne HROW.out (by omega) (Nat.le_refl _) hown' hgrow; have hc1 := hv1.cell; have hf1 := hv1.frozen)
    have hbn2 : Boxed (w1.setCell ⟨w.heap.size, 0, none⟩ (.slice (some ⟨g', 0, none⟩) ((rsOf pre).length + 1) cap')) (w.heap.size + 1) 28 (.slice a zs.length cap) :=
      ((HBN.out.alloc _).kept hgrow (HBN.out.not_row (by decide) HROW.out)).other (by omega) _
    have e1 : rsOf (pre ++ [x]) = rsOf pre ++ [r] := by rw [rsOf_snoc, HX.out]
    exact ⟨hk2.from _, ⟨hb2, Eq.trans hbn2 (Eq.symm HBN.out)⟩, ⟨⟨_, hv2, by rw [e1]; simpa using hr2, by rw [e1]; simp⟩, hbn2⟩, HB.out.trans hb2⟩
  case done =>
    rintro D ys W hD rfl ⟨⟨⟨v, hv, hrow, hnil⟩, hbn⟩, hB⟩ hK
    have hc := hv.cell
    rw [rsOf_all] at hrow hnil
    have HROW := hid hrow
    have HNIL := hid hnil
    have HB := hid hB
    clear hrow hnil hB hbn hv
    gi_wp2
    refine ⟨by simp, .inl ⟨_, _, rfl, run_takeDeferred hK, ?_⟩⟩
    exact ⟨_, results_tmp rfl _ _ _, v, rfl, ⟨ownsRow_putObj HROW.out _ hK rfl, HNIL.out⟩, HB.out.trans (belowK_b (w := w) (Nat.le_refl _) W D _ _ (by omega) hK rfl rfl)⟩
  case stop =>
    rintro D c pre W _ _ h _
    exact h.elim
end Go.Proofs.YtbkjanlkklmleaaDoor
