/- The law virgulelaw18.TagWrites returns true at every input, and leaves its arguments as they were. No condition. -/
import Derived.Test.YtpkbmgpbagdalaaRows
import Derived.Test.YtpkbmgpbagdalaaTagWritesW
import Derived.Test.YtpkbmgpbagdalaaOpenCell
import Derived.WalkKit
import Derived.ProofKit
import Derived.OpenShut
import Derived.ShutString
import Derived.ChangeOld
import Derived.Below
import Derived.Carry
import Derived.HandedShaped
namespace Go.Proofs.Ytpkbmgpbagdalaa.tagWrites
open Go.ChangeShapes Go.WideShapes Go.ChangeAt Go.RowKit
open Go.ChangeMaps (open_string shut_string)
set_option linter.unusedVariables false

/- The walk: theorem walk (x0 : Int) (x1 : Int) (x2 : ByteArray) (x3 : Option Addr) (x3Len x3Cap : Nat) (x3D : List (List Value)) (x4 : Bool) (x5 : Bool) (a : Option Addr) (aLen aCap : Nat) (aD : List Int) (w : World) (w0_0 : (Lit.int .i64 x0).wf = true) (w0_1 : (Lit.int .i64 x1).wf = true) (w0_2 : x2.size ≤ maxLen) (w0_3 : IsAggRow [.string, .string] w x3 x3Len x3Cap x3D) (w1 : IsRow .u8 w a aLen aCap aD) :
    Calls Try.prog 7 #[.agg #[.int .i64 x0, .int .i64 x1, .string x2, .slice x3 x3Len x3Cap, .bool x4, .bool x5], .slice a aLen aCap] w fun e w' => e = .returned (.bool true) ∧ Below w.heap.size w w' -/
theorem own : ownKnob Try.prog.godebug = none := by kernel_rfl
theorem laidOut : laidOutB Try.prog = true := by kernel_rfl

set_option maxRecDepth 100000 in
theorem lifted (os : Os) (started : os.Started) (H : Type) (enc : TypeId × Value → H) :
    ReturnsInHanded {} Try.checked os 7 .any (Rows.tagWritesSpec.pre6 enc Try.prog Try.f7 Rows.tagWritesRow.domain false) (Rows.tagWritesSpec.post enc Try.prog Try.f7 false true false false) := by
  refine returnsInHanded_of_change_shaped (C := Try.checked) own started (by kernel_rfl) Try.func7
    (ChangeSpec.witness6 (enc := enc) (C := Try.checked) false ⟨#[], #[.agg #[.int .i64 0, .int .i64 0, .string ByteArray.empty, .slice none 0 0, .bool false, .bool false], .slice none 0 0], []⟩ 8 (by kernel_rfl) (by kernel_rfl) (by kernel_rfl) (by kernel_rfl)) ?_
  intro W base args ds gs before hval0 hW hcnd _ hsh _
  have hval : ∀ (j : Nat) t v, Try.f7.params[j]? = some t → args[j]? = some v → Value.okWide Try.prog W .any base t v := hval0
  have hW' := hW
  obtain ⟨p, q, hA0, hV, rfl, hfz, hnd⟩ := hW
  have hA : DataW.TrodAll enc Try.prog W 0 (fun _ => true) true Try.f7.params.toList args.toList ds p := hA0
  rw [Try.params7] at hA hval
  obtain ⟨v0, vs0, d0, ds0, p0, q0, hargs, rfl, rfl, h0, r0⟩ := trodAll_cons hA
  obtain ⟨v1, vs1, d1, ds1, p1, q1, rfl, rfl, rfl, h1, r1⟩ := trodAll_cons r0
  obtain ⟨rfl, rfl, rfl⟩ := trodAll_nil r1
  obtain rfl : args = #[v0, v1] := by cases args; simp_all
  obtain ⟨rfl, rfl⟩ := trodVars_none hV
  have k0 := h0
  have lt0 : ∀ x ∈ p0, x.block < W.heap.size := by obtain ⟨m, hm⟩ := k0; exact DataW.trod_lt m _ _ _ hm
  obtain ⟨cs0, hcs0, hl0, hf0⟩ := open_agg Try.underlying31 (by kernel_rfl) (by kernel_rfl) (hval 0 31 v0 rfl rfl) h0
  obtain ⟨c0_0, c0_1, c0_2, c0_3, c0_4, c0_5, rfl⟩ := list_of_len6 cs0 hl0
  subst hcs0
  obtain ⟨c0_0', y0_0, n0_0, e0_0, g0_0⟩ := hf0 0 _ rfl
  obtain rfl : c0_0 = c0_0' := by simpa using e0_0
  obtain ⟨x0, rfl, w0_0⟩ := cell_int Try.underlying3 g0_0
  obtain ⟨c0_1', y0_1, n0_1, e0_1, g0_1⟩ := hf0 1 _ rfl
  obtain rfl : c0_1 = c0_1' := by simpa using e0_1
  obtain ⟨x1, rfl, w0_1⟩ := cell_int Try.underlying3 g0_1
  obtain ⟨c0_2', y0_2, n0_2, e0_2, g0_2⟩ := hf0 2 _ rfl
  obtain rfl : c0_2 = c0_2' := by simpa using e0_2
  obtain ⟨x2, rfl, w0_2⟩ := cell_string Try.underlying9 g0_2
  obtain ⟨c0_3', y0_3, n0_3, e0_3, g0_3⟩ := hf0 3 _ rfl
  obtain rfl : c0_3 = c0_3' := by simpa using e0_3
  obtain ⟨x3, x3Len, x3Cap, x3D, rfl, w0_3⟩ := cell_aggrow (ks := [.string, .string]) Try.underlying29 Try.underlying43 (by kernel_rfl) (by kernel_rfl) (by kernel_rfl) g0_3
  obtain ⟨c0_4', y0_4, n0_4, e0_4, g0_4⟩ := hf0 4 _ rfl
  obtain rfl : c0_4 = c0_4' := by simpa using e0_4
  obtain ⟨x4, rfl⟩ := cell_bool Try.underlying4 g0_4
  obtain ⟨c0_5', y0_5, n0_5, e0_5, g0_5⟩ := hf0 5 _ rfl
  obtain rfl : c0_5 = c0_5' := by simpa using e0_5
  obtain ⟨x5, rfl⟩ := cell_bool Try.underlying4 g0_5
  have k1 := h1
  have lt1 : ∀ x ∈ p1, x.block < W.heap.size := by obtain ⟨m, hm⟩ := k1; exact DataW.trod_lt m _ _ _ hm
  obtain ⟨a, aLen, aCap, rfl⟩ := okWide_slice Try.underlying22 (hval 1 22 v1 rfl rfl)
  obtain ⟨aD, w1⟩ := intRow_of Try.underlying22 Try.underlying5 (by kernel_rfl) h1
  clear hA0 hval0
  refine (walk x0 x1 x2 x3 x3Len x3Cap x3D x4 x5 a aLen aCap aD W w0_0 w0_1 w0_2 w0_3 w1 hsh).mono fun e W' ⟨he, bel⟩ => ?_
  subst he
  exact ⟨_, rfl, _, _, _, [], _, [], hW', trodAll_mk1 (shut_bool Try.underlying4 _), (trodAll_cons_mk (Below.trod laidOut (by kernel_rfl) (of_decide_eq_true (by kernel_rfl)) k0 bel lt0) (trodAll_cons_mk (Below.trod laidOut (by kernel_rfl) (of_decide_eq_true (by kernel_rfl)) k1 bel lt1) trodAll_mk0)), rfl, bel.frame _, fun h => by cases h⟩

theorem over : Rows.tagWritesRow.holds Try.pinned (OpenSpec.ofChange Rows.tagWritesSpec) :=
  OpenClaim.holds_of_wide 7 Try.f7 rfl rfl rfl rfl rfl rfl rfl ⟨rfl, rfl, rfl, rfl, rfl⟩ rfl rfl rfl rfl rfl (by kernel_rfl) Try.func7 (by kernel_rfl)
    (of_decide_eq_true (by kernel_rfl)) (by unfold Func.isWrapper; first | (rw [if_pos (by decide +kernel)]; kernel_rfl) | (rw [if_neg (by decide +kernel)]; exact ⟨rfl, rfl⟩))
    (fun os started H enc _ => lifted os started H enc)

theorem proved : Rows.TagWritesSaid := over
#print axioms proved
end Go.Proofs.Ytpkbmgpbagdalaa.tagWrites
