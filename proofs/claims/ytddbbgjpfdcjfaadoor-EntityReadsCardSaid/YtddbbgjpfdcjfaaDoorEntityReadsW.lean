/- The walk of the law EntityReads. -/
import Derived.Test.YtddbbgjpfdcjfaaDoorEnN
namespace Go.Proofs.YtddbbgjpfdcjfaaDoor.entityReads
open Go.RowKit
open Go.Lib (hid)
set_option linter.unusedVariables false

set_option maxRecDepth 100000 in
set_option maxHeartbeats 8000000 in
theorem walk (a : Option Addr) (aLen aCap : Nat) (aD : List Int) (i : Int) (w : World) (w0 : IsRow .u8 w a aLen aCap aD) (w1 : (Lit.int .i64 i).wf = true) :
    Calls Tryd.prog 3 #[.slice a aLen aCap, .int .i64 i] w fun e w' => e = .returned (.bool true) ∧ Below w.heap.size w w' := by
  obtain ⟨s, hs⟩ := ba_of w0
  have hi63 : i ≤ 9223372036854775807 := by
    simp only [Lit.wf, IntKind.min, IntKind.max, IntKind.signed, IntKind.bits, Bool.and_eq_true] at w1
    simp at w1
    omega
  have HAW := hid (awake_any w)
  clear w0 w1
  by_cases hbig : 200 < aLen
  · have hbig' : (200 : Int) < (aLen : Int) := by omega
    clear hs
    go_enter Tryd.func3, Tryd.ntmps3
    go_wp2_with fail
    refine HAW.out.mono ?_
    rintro e w3 ⟨rfl, hb3⟩
    go_wp2_with fail
    go_ret
    exact ⟨rfl, hb3⟩
  have hbig' : ¬ (200 : Int) < (aLen : Int) := by omega
  have HS := hid hs
  have HSZ := hid hs.1
  clear hs
  go_enter Tryd.func3, Tryd.ntmps3
  go_wp2_with fail
  refine HAW.out.mono ?_
  rintro e w3 ⟨rfl, hb3⟩
  have HB3 := hid hb3
  have HS3 := hid (HS.out.below hb3 (Nat.le_refl _))
  clear hb3 HAW HS
  have HRD := hid (entread_any a aLen aCap i s w3 HS3.out (by omega) hi63)
  by_cases h0 : i < 0
  · have he : entR s i = none := if_neg fun h => by omega
    rw [he] at HRD
    simp only [pairV, Option.getD_none] at HRD
    clear he
    go_wp2_with fail
    refine HRD.out.mono ?_
    rintro e w4 ⟨rfl, hb4⟩
    go_wp2_with fail
    go_ret
    exact ⟨rfl, HB3.out.trans (hb4.mono HB3.out.size)⟩
  by_cases h1 : (aLen : Int) ≤ i
  · have he : entR s i = none := if_neg fun h => by have := HSZ.out; omega
    rw [he] at HRD
    simp only [pairV, Option.getD_none] at HRD
    clear he
    go_wp2_with fail
    refine HRD.out.mono ?_
    rintro e w4 ⟨rfl, hb4⟩
    go_wp2_with fail
    go_ret
    exact ⟨rfl, HB3.out.trans (hb4.mono HB3.out.size)⟩
  obtain ⟨i, rfl⟩ : ∃ k : Nat, i = k := ⟨i.toNat, by omega⟩
  have hin : i < aLen := by omega
  have hre := ref_ent s i (by have := HSZ.out; omega)
  have href := fun (W : World) (hW : Below w3.heap.size w3 W) => refread_any a aLen aCap i s W (HS3.out.below hW (Nat.le_refl _)) (by omega) hin
  rw [hre] at href
  generalize entR s i = q at *
  simp only [pairV] at HRD href
  generalize (q.getD (0, 0)).1 = r at *
  generalize (q.getD (0, 0)).2 = z at *
  have HREF := hid href
  clear hre href
  go_wp2_with fail
  refine HRD.out.mono ?_
  rintro e w4 ⟨rfl, hb4⟩
  have HB4 := hid (HB3.out.trans (hb4.mono HB3.out.size))
  have HRF := hid (HREF.out w4 hb4)
  clear hb4
  go_wp2_with fail
  refine HRF.out.mono ?_
  rintro e w5 ⟨rfl, hb5⟩
  have HB5 := hid (HB4.out.trans (hb5.mono HB4.out.size))
  clear hb5
  go_wp2_with fail
  go_ret
  exact ⟨rfl, HB5.out⟩
end Go.Proofs.YtddbbgjpfdcjfaaDoor.entityReads
