/- The law virgulelaw25.OverlayHolds returns true at every input, and leaves its arguments as they were. No condition. -/
import Derived.Test.YtfhmeemkmdkhoaaRows
import Derived.Test.YtfhmeemkmdkhoaaOverlayHoldsW
import Derived.Test.YtfhmeemkmdkhoaaOpen
import Derived.WalkKit
import Derived.ProofKit
import Derived.OpenShut
import Derived.ShutString
import Derived.ChangeOld
import Derived.Below
import Derived.Carry
namespace Go.Proofs.Ytfhmeemkmdkhoaa.overlayHolds
open Go.ChangeShapes Go.WideShapes Go.ChangeAt Go.RowKit
open Go.ChangeMaps (open_string shut_string)
set_option linter.unusedVariables false

/- The walk: theorem walk (m : Int) (a0 : Int) (a1 : Int) (a2 : Int) (a3 : Bool) (a4 : Bool) (a5 : Bool) (a6 : Bool) (b0 : Int) (b1 : Int) (b2 : Int) (b3 : Bool) (b4 : Bool) (b5 : Bool) (b6 : Bool) (rule : Bool) (w : World) (w0 : (Lit.int .i64 m).wf = true) (w1_0 : (Lit.int .i32 a0).wf = true) (w1_1 : (Lit.int .i64 a1).wf = true) (w1_2 : (Lit.int .i64 a2).wf = true) (w2_0 : (Lit.int .i32 b0).wf = true) (w2_1 : (Lit.int .i64 b1).wf = true) (w2_2 : (Lit.int .i64 b2).wf = true) :
    Calls Try.prog 5 #[.int .i64 m, .agg #[.int .i32 a0, .int .i64 a1, .int .i64 a2, .bool a3, .bool a4, .bool a5, .bool a6], .agg #[.int .i32 b0, .int .i64 b1, .int .i64 b2, .bool b3, .bool b4, .bool b5, .bool b6], .bool rule] w fun e w' => e = .returned (.bool true) ∧ Below w.heap.size w w' -/
theorem own : ownKnob Try.prog.godebug = none := by kernel_rfl
theorem laidOut : laidOutB Try.prog = true := by kernel_rfl

set_option maxRecDepth 100000 in
theorem lifted (os : Os) (started : os.Started) (H : Type) (enc : TypeId × Value → H) :
    ReturnsInHanded {} Try.checked os 5 .any (Rows.overlayHoldsSpec.pre6 enc Try.prog Try.f5 Rows.overlayHoldsRow.domain false) (Rows.overlayHoldsSpec.post enc Try.prog Try.f5 false true false false) := by
  refine returnsInHanded_of_change (C := Try.checked) own started (by kernel_rfl) Try.func5
    (ChangeSpec.witness6 (enc := enc) (C := Try.checked) false ⟨#[], #[.int .i64 0, .agg #[.int .i32 0, .int .i64 0, .int .i64 0, .bool false, .bool false, .bool false, .bool false], .agg #[.int .i32 0, .int .i64 0, .int .i64 0, .bool false, .bool false, .bool false, .bool false], .bool false], []⟩ 8 (by kernel_rfl) (by kernel_rfl) (by kernel_rfl) (by kernel_rfl)) ?_
  intro W base args ds gs before hval0 hW hcnd _
  have hval : ∀ (j : Nat) t v, Try.f5.params[j]? = some t → args[j]? = some v → Value.okWide Try.prog W .any base t v := hval0
  have hW' := hW
  obtain ⟨p, q, hA0, hV, rfl, hfz, hnd⟩ := hW
  have hA : DataW.TrodAll enc Try.prog W 0 (fun _ => true) true Try.f5.params.toList args.toList ds p := hA0
  rw [Try.params5] at hA hval
  obtain ⟨v0, vs0, d0, ds0, p0, q0, hargs, rfl, rfl, h0, r0⟩ := trodAll_cons hA
  obtain ⟨v1, vs1, d1, ds1, p1, q1, rfl, rfl, rfl, h1, r1⟩ := trodAll_cons r0
  obtain ⟨v2, vs2, d2, ds2, p2, q2, rfl, rfl, rfl, h2, r2⟩ := trodAll_cons r1
  obtain ⟨v3, vs3, d3, ds3, p3, q3, rfl, rfl, rfl, h3, r3⟩ := trodAll_cons r2
  obtain ⟨rfl, rfl, rfl⟩ := trodAll_nil r3
  obtain rfl : args = #[v0, v1, v2, v3] := by cases args; simp_all
  obtain ⟨rfl, rfl⟩ := trodVars_none hV
  obtain ⟨m, rfl, rfl, rfl, w0⟩ := open_int Try.underlying3 (hval 0 3 v0 rfl rfl) h0
  have k1 := h1
  have lt1 : ∀ x ∈ p1, x.block < W.heap.size := by obtain ⟨m, hm⟩ := k1; exact DataW.trod_lt m _ _ _ hm
  obtain ⟨cs1, hcs1, hl1, hf1⟩ := open_agg Try.underlying23 (by kernel_rfl) (by kernel_rfl) (hval 1 23 v1 rfl rfl) h1
  obtain ⟨c1_0, c1_1, c1_2, c1_3, c1_4, c1_5, c1_6, rfl⟩ := list_of_len7 cs1 hl1
  subst hcs1
  obtain ⟨c1_0', y1_0, n1_0, e1_0, g1_0⟩ := hf1 0 _ rfl
  obtain rfl : c1_0 = c1_0' := by simpa using e1_0
  obtain ⟨a0, rfl, w1_0⟩ := cell_int Try.underlying21 g1_0
  obtain ⟨c1_1', y1_1, n1_1, e1_1, g1_1⟩ := hf1 1 _ rfl
  obtain rfl : c1_1 = c1_1' := by simpa using e1_1
  obtain ⟨a1, rfl, w1_1⟩ := cell_int Try.underlying3 g1_1
  obtain ⟨c1_2', y1_2, n1_2, e1_2, g1_2⟩ := hf1 2 _ rfl
  obtain rfl : c1_2 = c1_2' := by simpa using e1_2
  obtain ⟨a2, rfl, w1_2⟩ := cell_int Try.underlying3 g1_2
  obtain ⟨c1_3', y1_3, n1_3, e1_3, g1_3⟩ := hf1 3 _ rfl
  obtain rfl : c1_3 = c1_3' := by simpa using e1_3
  obtain ⟨a3, rfl⟩ := cell_bool Try.underlying4 g1_3
  obtain ⟨c1_4', y1_4, n1_4, e1_4, g1_4⟩ := hf1 4 _ rfl
  obtain rfl : c1_4 = c1_4' := by simpa using e1_4
  obtain ⟨a4, rfl⟩ := cell_bool Try.underlying4 g1_4
  obtain ⟨c1_5', y1_5, n1_5, e1_5, g1_5⟩ := hf1 5 _ rfl
  obtain rfl : c1_5 = c1_5' := by simpa using e1_5
  obtain ⟨a5, rfl⟩ := cell_bool Try.underlying4 g1_5
  obtain ⟨c1_6', y1_6, n1_6, e1_6, g1_6⟩ := hf1 6 _ rfl
  obtain rfl : c1_6 = c1_6' := by simpa using e1_6
  obtain ⟨a6, rfl⟩ := cell_bool Try.underlying4 g1_6
  have k2 := h2
  have lt2 : ∀ x ∈ p2, x.block < W.heap.size := by obtain ⟨m, hm⟩ := k2; exact DataW.trod_lt m _ _ _ hm
  obtain ⟨cs2, hcs2, hl2, hf2⟩ := open_agg Try.underlying23 (by kernel_rfl) (by kernel_rfl) (hval 2 23 v2 rfl rfl) h2
  obtain ⟨c2_0, c2_1, c2_2, c2_3, c2_4, c2_5, c2_6, rfl⟩ := list_of_len7 cs2 hl2
  subst hcs2
  obtain ⟨c2_0', y2_0, n2_0, e2_0, g2_0⟩ := hf2 0 _ rfl
  obtain rfl : c2_0 = c2_0' := by simpa using e2_0
  obtain ⟨b0, rfl, w2_0⟩ := cell_int Try.underlying21 g2_0
  obtain ⟨c2_1', y2_1, n2_1, e2_1, g2_1⟩ := hf2 1 _ rfl
  obtain rfl : c2_1 = c2_1' := by simpa using e2_1
  obtain ⟨b1, rfl, w2_1⟩ := cell_int Try.underlying3 g2_1
  obtain ⟨c2_2', y2_2, n2_2, e2_2, g2_2⟩ := hf2 2 _ rfl
  obtain rfl : c2_2 = c2_2' := by simpa using e2_2
  obtain ⟨b2, rfl, w2_2⟩ := cell_int Try.underlying3 g2_2
  obtain ⟨c2_3', y2_3, n2_3, e2_3, g2_3⟩ := hf2 3 _ rfl
  obtain rfl : c2_3 = c2_3' := by simpa using e2_3
  obtain ⟨b3, rfl⟩ := cell_bool Try.underlying4 g2_3
  obtain ⟨c2_4', y2_4, n2_4, e2_4, g2_4⟩ := hf2 4 _ rfl
  obtain rfl : c2_4 = c2_4' := by simpa using e2_4
  obtain ⟨b4, rfl⟩ := cell_bool Try.underlying4 g2_4
  obtain ⟨c2_5', y2_5, n2_5, e2_5, g2_5⟩ := hf2 5 _ rfl
  obtain rfl : c2_5 = c2_5' := by simpa using e2_5
  obtain ⟨b5, rfl⟩ := cell_bool Try.underlying4 g2_5
  obtain ⟨c2_6', y2_6, n2_6, e2_6, g2_6⟩ := hf2 6 _ rfl
  obtain rfl : c2_6 = c2_6' := by simpa using e2_6
  obtain ⟨b6, rfl⟩ := cell_bool Try.underlying4 g2_6
  obtain ⟨rule, rfl, rfl, rfl⟩ := open_bool Try.underlying4 (hval 3 4 v3 rfl rfl) h3
  clear hA0 hval0
  refine (walk m a0 a1 a2 a3 a4 a5 a6 b0 b1 b2 b3 b4 b5 b6 rule W w0 w1_0 w1_1 w1_2 w2_0 w2_1 w2_2).mono fun e W' ⟨he, bel⟩ => ?_
  subst he
  exact ⟨_, rfl, _, _, _, [], _, [], hW', trodAll_mk1 (shut_bool Try.underlying4 _), (trodAll_cons_mk (shut_int Try.underlying3 w0) (trodAll_cons_mk (Below.trod laidOut (by kernel_rfl) (of_decide_eq_true (by kernel_rfl)) k1 bel lt1) (trodAll_cons_mk (Below.trod laidOut (by kernel_rfl) (of_decide_eq_true (by kernel_rfl)) k2 bel lt2) (trodAll_cons_mk (shut_bool Try.underlying4 _) trodAll_mk0)))), rfl, bel.frame _, fun h => by cases h⟩

theorem over : Rows.overlayHoldsRow.holds Try.pinned (OpenSpec.ofChange Rows.overlayHoldsSpec) :=
  OpenClaim.holds_of_wide 5 Try.f5 rfl rfl rfl rfl rfl rfl rfl ⟨rfl, rfl, rfl, rfl, rfl⟩ rfl rfl rfl rfl rfl (by kernel_rfl) Try.func5 (by kernel_rfl)
    (of_decide_eq_true (by kernel_rfl)) (by unfold Func.isWrapper; first | (rw [if_pos (by decide +kernel)]; kernel_rfl) | (rw [if_neg (by decide +kernel)]; exact ⟨rfl, rfl⟩))
    (fun os started H enc _ => lifted os started H enc)

theorem proved : Rows.OverlayHoldsSaid := over
#print axioms proved
end Go.Proofs.Ytfhmeemkmdkhoaa.overlayHolds
