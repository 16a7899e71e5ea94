/- The law virgulelaw19.TokenPrints returns true at every input, and leaves its arguments as they were. No condition. -/
import Derived.Test.YtaklajbifkljjaaGreatDoorRows
import Derived.Test.YtaklajbifkljjaaGreatDoorTokenPrintsW
import Derived.Test.YtaklajbifkljjaaGreatDoorOpen
import Derived.Test.YtaklajbifkljjaaGreatDoorOpenCell
import Derived.WalkKit
import Derived.ProofKit
import Derived.OpenShut
import Derived.ShutString
import Derived.ChangeOld
import Derived.Below
import Derived.Carry
import Derived.HandedShaped
import Derived.Test.YtaklajbifkljjaaGreatDoorCards
import Derived.Test.YtaklajbifkljjaaGreatDoorTie
import Derived.Test.YtaklajbifkljjaaGreatDoorCardKit
import Derived.Test.YtaklajbifkljjaaGreatDoorTkLaid
import Derived.LaidMore
import Derived.Lay
import Derived.SevenTiedAt
import Derived.Stop.Joined
namespace Go.Proofs.YtaklajbifkljjaaGreatDoor.tokenPrints
open Go.ChangeShapes Go.WideShapes Go.ChangeAt Go.RowKit
open Go.ChangeMaps (open_string shut_string)
set_option linter.unusedVariables false

/- The walk: theorem walk (t0 : Int) (t1 : Int) (t2 : Int) (t3 : ByteArray) (t4 : Int) (t5 : Bool) (t6 : Bool) (w : World) (w0_0 : (Lit.int .i64 t0).wf = true) (w0_1 : (Lit.int .i64 t1).wf = true) (w0_2 : (Lit.int .i64 t2).wf = true) (w0_3 : t3.size ≤ maxLen) (w0_4 : (Lit.int .i32 t4).wf = true) :
    Calls Tryz.prog 9 #[.agg #[.int .i64 t0, .int .i64 t1, .int .i64 t2, .string t3, .int .i32 t4, .bool t5, .bool t6]] w fun e w' => e = .returned (.bool true) ∧ Below w.heap.size w w' -/
theorem own : ownKnob Tryz.prog.godebug = none := by kernel_rfl
theorem laidOut : laidOutB Tryz.prog = true := by kernel_rfl

set_option maxRecDepth 100000 in
theorem lifted (os : Os) (started : os.Started) (H : Type) (enc : TypeId × Value → H) :
    ReturnsInHanded {} Tryz.checked os 9 .any (fun w args => (Rows.tokenPrintsSpec.pre enc Tryz.prog Tryz.f9 Rows.tokenPrintsRow.domain false w args ∧ laidMetH Tryz.prog Rows.tokenPrintsRow.laid w) ∧ sizedMet enc Tryz.prog Tryz.f9 (OpenSpec.ofChange Rows.tokenPrintsSpec) false w args) (Rows.tokenPrintsSpec.post enc Tryz.prog Tryz.f9 false true false false) := by
  refine returnsInHanded_of_change_and_shaped (C := Tryz.checked) (X := fun w _ => laidMetH Tryz.prog Rows.tokenPrintsRow.laid w) (fun _ _ _ hh h => h.of_heap hh) own started (by kernel_rfl) Tryz.func9
    (ChangeSpec.witness_shaped (enc := enc) (C := Tryz.checked) (os := os) (X := fun w _ => laidMetH Tryz.prog Rows.tokenPrintsRow.laid w) false (World.laidAll Tryz.prog os Rows.tokenPrintsRow.laid) #[.agg #[.int .i64 0, .int .i64 0, .int .i64 0, .string ByteArray.empty, .int .i32 0, .bool false, .bool false]] 8 (World.laidAll_os _ _ _)
      (World.shaped_of_ZipB (by kernel_rfl) (by kernel_rfl)) (by kernel_rfl) (by kernel_rfl) (by kernel_rfl)
      (by rw [MakeChecks.laidMetH_plain _ _ _ (by kernel_rfl)]; exact laidMet_laidAll _ (by kernel_rfl) (by kernel_rfl))) ?_
  intro W base args ds gs before hval0 hW hcnd _ hLaid hsh _
  have hval : ∀ (j : Nat) t v, Tryz.f9.params[j]? = some t → args[j]? = some v → Value.okWide Tryz.prog W .any base t v := hval0
  have hW' := hW
  obtain ⟨p, q, hA0, hV, rfl, hfz, hnd⟩ := hW
  have hA : DataW.TrodAll enc Tryz.prog W 0 (fun _ => true) true Tryz.f9.params.toList args.toList ds p := hA0
  rw [Tryz.params9] at hA hval
  obtain ⟨v0, vs0, d0, ds0, p0, q0, hargs, rfl, rfl, h0, r0⟩ := trodAll_cons hA
  obtain ⟨rfl, rfl, rfl⟩ := trodAll_nil r0
  obtain rfl : args = #[v0] := by cases args; simp_all
  obtain ⟨rfl, rfl⟩ := trodVars_none hV
  have k0 := h0
  have lt0 : ∀ x ∈ p0, x.block < W.heap.size := by obtain ⟨m, hm⟩ := k0; exact DataW.trod_lt m _ _ _ hm
  obtain ⟨cs0, hcs0, hl0, hf0⟩ := open_agg Tryz.underlying53 (by kernel_rfl) (by kernel_rfl) (hval 0 53 v0 rfl rfl) h0
  obtain ⟨c0_0, c0_1, c0_2, c0_3, c0_4, c0_5, c0_6, rfl⟩ := list_of_len7 cs0 hl0
  subst hcs0
  obtain ⟨c0_0', y0_0, n0_0, e0_0, g0_0⟩ := hf0 0 _ rfl
  obtain rfl : c0_0 = c0_0' := by simpa using e0_0
  obtain ⟨t0, rfl, w0_0⟩ := cell_int Tryz.underlying3 g0_0
  obtain ⟨c0_1', y0_1, n0_1, e0_1, g0_1⟩ := hf0 1 _ rfl
  obtain rfl : c0_1 = c0_1' := by simpa using e0_1
  obtain ⟨t1, rfl, w0_1⟩ := cell_int Tryz.underlying3 g0_1
  obtain ⟨c0_2', y0_2, n0_2, e0_2, g0_2⟩ := hf0 2 _ rfl
  obtain rfl : c0_2 = c0_2' := by simpa using e0_2
  obtain ⟨t2, rfl, w0_2⟩ := cell_int Tryz.underlying3 g0_2
  obtain ⟨c0_3', y0_3, n0_3, e0_3, g0_3⟩ := hf0 3 _ rfl
  obtain rfl : c0_3 = c0_3' := by simpa using e0_3
  obtain ⟨t3, rfl, w0_3⟩ := cell_string Tryz.underlying9 g0_3
  obtain ⟨c0_4', y0_4, n0_4, e0_4, g0_4⟩ := hf0 4 _ rfl
  obtain rfl : c0_4 = c0_4' := by simpa using e0_4
  obtain ⟨t4, rfl, w0_4⟩ := cell_int Tryz.underlying21 g0_4
  obtain ⟨c0_5', y0_5, n0_5, e0_5, g0_5⟩ := hf0 5 _ rfl
  obtain rfl : c0_5 = c0_5' := by simpa using e0_5
  obtain ⟨t5, rfl⟩ := cell_bool Tryz.underlying4 g0_5
  obtain ⟨c0_6', y0_6, n0_6, e0_6, g0_6⟩ := hf0 6 _ rfl
  obtain rfl : c0_6 = c0_6' := by simpa using e0_6
  obtain ⟨t6, rfl⟩ := cell_bool Tryz.underlying4 g0_6
  clear hA0 hval0
  have hdb := db_tokenPrints hLaid
  refine (walk t0 t1 t2 t3 t4 t5 t6 W w0_0 w0_1 w0_2 w0_3 w0_4 hsh hdb).mono fun e W' ⟨he, bel⟩ => ?_
  subst he
  exact ⟨_, rfl, _, _, _, [], _, [], hW', trodAll_mk1 (shut_bool Tryz.underlying4 _), (trodAll_cons_mk (Below.trod laidOut (by kernel_rfl) (of_decide_eq_true (by kernel_rfl)) k0 bel lt0) trodAll_mk0), rfl, bel.frame _, fun h => by cases h⟩

theorem over : Rows.tokenPrintsRow.holds Tryz.pinned (OpenSpec.ofChange Rows.tokenPrintsSpec) :=
  OpenClaim.holds_of_wide 9 Tryz.f9 rfl rfl rfl rfl rfl rfl rfl ⟨rfl, rfl, rfl, rfl, rfl⟩ rfl rfl rfl rfl rfl (by kernel_rfl) Tryz.func9 (by kernel_rfl)
    (of_decide_eq_true (by kernel_rfl)) (by unfold Func.isWrapper; first | (rw [if_pos (by decide +kernel)]; kernel_rfl) | (rw [if_neg (by decide +kernel)]; exact ⟨rfl, rfl⟩))
    (fun os started H enc _ => lifted os started H enc)

theorem proved : Rows.TokenPrintsCardSaid :=
  Claim7.holds_tied_plain_at .later [] Rows.tokenPrintsCard.laidKinds true Rows.tokenPrintsCard.stood.harness true over (fun _ h => by cases h) (by kernel_rfl) (fun _ h => by cases h) tokenPrints_row_tie rfl ⟨rfl, rfl⟩ (by kernel_rfl) rfl
    (fun f fn hf hfn => by
      obtain rfl : f = 9 := Option.some.inj ((show Tryz.prog.funcNamed "virgule/virgulelaw19.TokenPrints" = some 9 by kernel_rfl).symm.trans hf) |>.symm
      obtain rfl : fn = Tryz.f9 := (Option.some.inj (Tryz.func9.symm.trans hfn)).symm
      exact ⟨by kernel_rfl, fun j t ht => by
        rw [Tryz.params9] at ht
        have hm : t ∈ [53] := by simpa using Array.mem_of_getElem? ht
        have hall : ([53].all fun u => !Tryz.prog.wantsStandIn u) = true := by kernel_rfl
        exact (show Tryz.prog.wantsStandIn t = false by simpa using List.all_eq_true.1 hall t hm)⟩)
    (by kernel_rfl)
#print axioms proved
end Go.Proofs.YtaklajbifkljjaaGreatDoor.tokenPrints
