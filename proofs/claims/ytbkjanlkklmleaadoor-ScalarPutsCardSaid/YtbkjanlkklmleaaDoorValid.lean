/- Walk of scalar.Valid. -/
import Derived.Test.YtbkjanlkklmleaaDoorProg
import Derived.Test.YtbkjanlkklmleaaDoorAll
namespace Go.Proofs.YtbkjanlkklmleaaDoor
open Go.RowKit Go.Shelf
open Go.Lib (hid)
attribute [local go_sem] Oper.semAt_some

def validF (zs : List Int) : Bool := (pcs zs).all (·.whole)

def vTmps (a : Option Addr) (len cap BO Bn Bx : Nat) (x : Value) : Array Value :=
  #[.slice a len cap, undef, .pointer (some ⟨BO, 0, none⟩), .pointer (some ⟨Bx, 0, none⟩), .slice a len cap, .func (.func 26) #[] #[.pointer (some ⟨Bn, 0, none⟩)], x, undef, undef, undef]

set_option maxRecDepth 100000 in
set_option maxHeartbeats 4000000 in
theorem valid_any (a : Option Addr) (cap : Nat) (zs : List Int) (w : World) (hs : SB w a cap zs) :
    Calls Tryd.prog 13 #[.slice a zs.length cap] w fun e W' => e = .returned (.bool (validF zs)) ∧ Below w.heap.size w W' := by
  refine (callsIn_wide (n := 6)).1 ?_
  refine callsIn_of_wp_marks Tryd.func13 rfl trivial ?_ rfl
  simp only [Tryd.ntmps13, List.size_toArray, List.length_cons, List.length_nil, Nat.reduceAdd, Nat.reduceSub, Array.replicate_succ, Array.replicate_zero, List.push_toArray, List.append_toArray, List.nil_append, List.cons_append]
  gi_wp2_with fail
  refine ⟨trivial, (callsIn_wide.2 (pieces_any _ a zs.length cap rfl _)).mono ?_⟩
  rintro e w' ⟨rfl, rfl⟩
  gi_wp2_with fail
  have bO := (Boxed.new w 4 (.bool false)).alloc (.cells #[.slice a zs.length cap] 28)
  have bN := Boxed.new (w.alloc (.cells #[.bool false] 4)) 28 (.slice a zs.length cap)
  rw [World.size_alloc] at bN
  have hB0 : Below w.heap.size w ((w.alloc (.cells #[.bool false] 4)).alloc (.cells #[.slice a zs.length cap] 28)) := ((Below.refl _ w).alloc (Nat.le_refl _) _).alloc (by simp) _
  have hsz : ((w.alloc (.cells #[.bool false] 4)).alloc (.cells #[.slice a zs.length cap] 28)).heap.size = w.heap.size + 2 := by simp
  generalize (w.alloc (.cells #[.bool false] 4)).alloc (.cells #[.slice a zs.length cap] 28) = W0 at *
  refine wpIn_rangeFunc_ownH rfl (by omega) (gf := 26) (lb := #[.pointer (some ⟨w.heap.size + 1, 0, none⟩)]) rfl trivial (enters_of Tryd.func26 (by kernel_rfl) rfl)
    (pieces_stops _ (w.heap.size + 1) w.heap.size a cap zs W0 (by omega) (by omega) bN.cell (hs.below hB0 (Nat.le_refl _)) hs.none_lt) (fun h k => h.trans k) (KpB.putObj (by omega) (by omega)) (Below.refl _ _) (fun _ => rfl)
    (fun pre W => ((∀ y ∈ pre, y.1.whole = true) ∧ (Boxed W w.heap.size 4 (.bool false) ∧ Boxed W (w.heap.size + 1) 28 (.slice a zs.length cap))) ∧ Below w.heap.size w W)
    (fun c pre W => ((c = .ret ∧ ∃ y ∈ pre, y.1.whole = false) ∧ Boxed W w.heap.size 4 (.bool false)) ∧ Below w.heap.size w W)
    (OwnFrom.and (OwnFrom.and (fun _ _ _ _ hs _ _ => hs) (OwnFrom.and (Own.from (boxed_own _ _ _) _) (Own.from (boxed_own _ _ _) _))) (ownFrom_below (Nat.le_refl _) (by omega)))
    (fun c => OwnFrom.and (OwnFrom.and (fun _ _ _ _ hs _ _ => hs) (Own.from (boxed_own _ _ _) _)) (ownFrom_below (Nat.le_refl _) (by omega)))
    ⟨⟨by simp, bO, bN⟩, hB0⟩
    (fun x a' W => ∃ Bx, w.heap.size + 1 < Bx ∧ W.heap[Bx]? = some (.cells #[.int .i64 x.1.at_, .int .i64 x.1.size, .int .i32 x.1.r, .bool x.1.whole] 46 (0, 0)) ∧ a' = { tmps := vTmps a zs.length cap w.heap.size (w.heap.size + 1) Bx (encPc x.1), defers := [] })
    (fun x a' _ X Y row hs hg hr => by
      obtain ⟨Bx, h1, h2, h3⟩ := hs
      refine ⟨Bx, h1, ?_, h3⟩
      refine (hg.block Bx (Array.getElem?_eq_some_iff.1 h2).1 (fun e => ?_)).trans h2
      obtain ⟨_, o, ho, hc⟩ := hr Bx e.symm
      rw [h2] at ho
      cases ho
      cases hc)
    ?assign ?body ?done ?stop
  case assign =>
    rintro l pre x W K ⟨⟨hp, hv, hbn⟩, hB⟩ hK
    have HP := hid hp
    clear hp
    simp only [encsPc, encPc]
    gi_wp2
    have hsw := hB.size
    have hlt := hbn.lt
    exact hK _ _ ((KeepsOthers.alloc _ _).from _) (KpB.of_below ((Below.refl W.heap.size W).alloc (Nat.le_refl _) _) (by omega) hlt) ⟨⟨HP.out, hv.alloc _, hbn.alloc _⟩, hB.alloc (by omega) _⟩
      ⟨W.heap.size, hlt, World.alloc_heap_new W _, rfl⟩
  case body =>
    rintro l pre x a' W hl ⟨rc, hrc⟩ ⟨⟨hp, hv, hbn⟩, hB⟩ ⟨Bx, hBx, bX, rfl⟩ hlt
    have hc := hv.cell
    have hf := hv.frozen
    have hcx : W.cell? ⟨Bx, 3, none⟩ = some (.bool x.1.whole) := by rw [cell_of_row _ _ _ _ _ _ bX]; rfl
    have HBN := hid hbn
    have HB := hid hB
    have HV := hid hv
    have HP := hid hp
    clear hp hbn hB hv bX hrc hlt hs
    unfold vTmps encPc
    cases hx : x.1.whole <;> rw [hx] at hcx
    · have HX := hid hx
      clear hx
      gi_wp2
      exact ⟨(KeepsOthers.setCell _ _ _).from _, ⟨⟨rfl, x, by simp, HX.out⟩, HV.out.set _⟩, HB.out.setCell (Nat.le_refl _) _⟩
    · have HX := hid hx
      clear hx
      gi_wp2
      refine ⟨KeepsFrom.refl _ _, KpB.refl _ _ _, ⟨fun y hy => ?_, HV.out, HBN.out⟩, HB.out⟩
      rcases List.mem_append.1 hy with h | h
      · exact HP.out y h
      · simp at h; subst h; exact HX.out
  case done =>
    rintro D ys W hD rfl ⟨⟨hp, hv, hbn⟩, hB⟩ hK
    have hc := hv.cell
    have hf := hv.frozen
    have HV := hid hv
    have HB := hid hB
    have hval : validF zs = true := by
      unfold validF
      rw [List.all_eq_true]
      intro p hpm
      exact hp ⟨p, hpm⟩ (List.mem_attach _ _)
    have HVAL := hid hval
    clear hp hbn hB hv hval hs
    gi_wp2
    have hK' := (KeepsOthers.setCell W ⟨w.heap.size, 0, none⟩ (.bool true)).same D _ hK rfl
    refine ⟨by simp, .inl ⟨_, _, rfl, run_takeDeferred hK', ?_⟩⟩
    have hc5 := cell_kept ((HV.out.set (.bool true)).cell) (grownBy_putObj' _ D (.deferred none)) (fun r e => by cases e; exact ⟨_, hK', rfl⟩)
    refine ⟨.bool true, ?_, by rw [HVAL.out], (HB.out.setCell (Nat.le_refl _) _).trans (belowK_b (w := w) (Nat.le_refl _) _ D _ _ (by omega) hK' rfl rfl)⟩
    simp [results, Tryd.results13, go_sem, hc5]
  case stop =>
    rintro D c pre W hD hpre ⟨⟨⟨rfl, y, hy, hw⟩, hv⟩, hB⟩ hK
    have hc := hv.cell
    have HV := hid hv
    have HB := hid hB
    have hval : validF zs = false := by
      unfold validF
      rw [List.all_eq_false]
      exact ⟨y.1, y.2, by simp [hw]⟩
    have HVAL := hid hval
    clear hpre hB hv hval hs hw hy
    gi_wp2
    refine ⟨by simp, .inl ⟨_, _, rfl, run_takeDeferred hK, ?_⟩⟩
    have hc5 := cell_kept HV.out.cell (grownBy_putObj' _ D (.deferred none)) (fun r e => by cases e; exact ⟨_, hK, rfl⟩)
    refine ⟨.bool false, ?_, by rw [HVAL.out], HB.out.trans (belowK_b (w := w) (Nat.le_refl _) _ D _ _ (by omega) hK rfl rfl)⟩
    simp [results, Tryd.results13, go_sem, hc5]
end Go.Proofs.YtbkjanlkklmleaaDoor
