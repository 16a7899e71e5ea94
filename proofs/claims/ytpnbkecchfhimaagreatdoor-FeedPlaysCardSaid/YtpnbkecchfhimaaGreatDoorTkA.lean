/- Chapter 19: where raw bytes end: the walks. -/
import Derived.Test.YtpnbkecchfhimaaGreatDoorTkP2
import Derived.Lib.ConvBytes
import Derived.Deep.LoopGhost
import Derived.Outline
namespace Go.Proofs.YtpnbkecchfhimaaGreatDoor
open Go.RowKit
open Go.Lib (hid)
set_option linter.unusedVariables false
set_option maxRecDepth 100000

theorem raws_any (x : ByteArray) (w : World) : Calls Tryz.prog 95 #[.string x] w fun e w' => e = .returned (.bool (rawsB x)) ∧ w' = w := by
  by_cases h1 : x = scriptB
  · subst h1
    have HR := hid (show rawsB scriptB = true from rfl)
    unfold scriptB
    go_enter Tryz.func95, Tryz.ntmps95
    go_wp2_with fail
    go_ret
    exact ⟨ret_bool HR.out.symm, rfl⟩
  have k1 : ¬ x.toList = [115, 99, 114, 105, 112, 116] := fun h => h1 (by
    rw [Lib.toList_data] at h
    exact ByteArray.ext (Array.toList_inj.1 (h.trans rfl)))
  have b1 : (x.toList == [115, 99, 114, 105, 112, 116]) = false := by simpa using k1
  by_cases h2 : x = styleB
  · subst h2
    have HR := hid (show rawsB styleB = true from rfl)
    unfold styleB
    go_enter Tryz.func95, Tryz.ntmps95
    go_wp2_with fail
    go_ret
    exact ⟨ret_bool HR.out.symm, rfl⟩
  have k2 : ¬ x.toList = [115, 116, 121, 108, 101] := fun h => h2 (by
    rw [Lib.toList_data] at h
    exact ByteArray.ext (Array.toList_inj.1 (h.trans rfl)))
  have b2 : (x.toList == [115, 116, 121, 108, 101]) = false := by simpa using k2
  have HR := hid (show rawsB x = false by unfold rawsB; rw [decide_eq_false h1, decide_eq_false h2]; rfl)
  clear h1 h2
  go_enter Tryz.func95, Tryz.ntmps95
  go_wp2_with fail
  go_ret
  exact ⟨ret_bool HR.out.symm, rfl⟩

/-- What may stand behind an end tag's name. -/
def endL : List Int := [9, 10, 12, 13, 32, 47, 62]
def endB (c : Int) : Bool := blankB c || decide (c = 47) || decide (c = 62)
theorem endB_mem (c : Int) : endB c = true ↔ c ∈ endL := by
  unfold endB blankB endL
  simp
  omega
def endC : Array Value := #[.int .u8 9, .int .u8 10, .int .u8 12, .int .u8 13, .int .u8 32, .int .u8 47, .int .u8 62]
theorem endC_get : ∀ k : Fin 7, endC[k.val]? = some (.int .u8 (endL.getD k.val 0)) := fun k => by
  match k with
  | ⟨0, _⟩ => rfl
  | ⟨1, _⟩ => rfl
  | ⟨2, _⟩ => rfl
  | ⟨3, _⟩ => rfl
  | ⟨4, _⟩ => rfl
  | ⟨5, _⟩ => rfl
  | ⟨6, _⟩ => rfl
theorem endL_all {c : Int} (h : ∀ j, j < 7 → endL.getD j 0 ≠ c) : endB c = false := by
  rw [Bool.eq_false_iff]
  intro hc
  have hm := (endB_mem c).1 hc
  obtain ⟨j, hj, e⟩ := List.mem_iff_getElem.1 hm
  refine h j hj ?_
  rw [List.getD_eq_getElem?_getD, List.getElem?_eq_getElem hj]
  exact e
theorem endL_in {c : Int} {j : Nat} (hj : j < 7) (h : endL.getD j 0 = c) : endB c = true := by
  refine (endB_mem c).2 ?_
  rw [← h, List.getD_eq_getElem?_getD, List.getElem?_eq_getElem (show j < endL.length from hj)]
  exact List.getElem_mem _
set_option maxHeartbeats 1000000 in
theorem index7_any (q : Nat) (c : Int) (w : World) (hq : ∀ k, k < 7 → w.cell? ⟨q, k, none⟩ = some (.int .u8 (endL.getD k 0))) :
    Calls Tryz.prog 189 #[.slice (some ⟨q, 0, none⟩) 7 7, .int .u8 c] w fun e w' => (∃ j : Int, e = .returned (.int .i64 j) ∧ decide (0 ≤ j) = endB c ∧ -1 ≤ j ∧ j ≤ 7) ∧ w' = w := by
  have HC := hid hq
  clear hq
  go_enter Tryz.func189, Tryz.ntmps189
  go_wp2_with fail
  go_loopg [8] 7 (fun kx s8 wr => ∃ i : Nat, s8 = .int .i64 i ∧ i ≤ 7 ∧ 7 - i ≤ kx ∧ wr = w ∧ Hid (∀ j, j < i → endL.getD j 0 ≠ c))
  case atStart => exact ⟨0, rfl, Nat.zero_le _, by omega, rfl, fun j hj => absurd hj (Nat.not_lt_zero _)⟩
  case round =>
    obtain ⟨i, rfl, hi, hg, hw, HA⟩ := hrel
    obtain rfl : w = wr := hw.symm
    by_cases hlt : i < 7
    · have hlt' : (i : Int) < 7 := by omega
      have c0 := HC.out i hlt
      by_cases he : endL.getD i 0 = c
      · have HT := hid (endL_in hlt he)
        rw [he] at c0
        have hee : (c == c) = true := by simp
        clear he
        go_wp2_with fail
        go_ret
        exact ⟨⟨i, rfl, by rw [HT.out]; exact decide_eq_true (by omega), by omega, by omega⟩, rfl⟩
      · have HA2 := hid (show ∀ j, j < i + 1 → endL.getD j 0 ≠ c from fun j hj => by
          rcases Nat.lt_or_ge j i with h | h
          · exact HA.out j h
          · obtain rfl : j = i := by omega
            exact he)
        generalize endL.getD i 0 = z at *
        have hee : (c == z) = false := by simpa using fun h => he h.symm
        clear he
        go_wp2_with fail
        go_roundg (7 - (i + 1))
        case measure => omega
        case rel => exact ⟨i + 1, by go_num, by omega, Nat.le_refl _, rfl, HA2⟩
    · have hlt' : ¬ (i : Int) < 7 := by omega
      have HF := hid (endL_all fun j hj => HA.out j (by omega))
      clear hi hg hlt
      go_wp2_with fail
      go_ret
      exact ⟨⟨-1, rfl, by rw [HF.out]; rfl, by omega, by omega⟩, rfl⟩
theorem contains7_any (q : Nat) (c : Int) (w : World) (hq : ∀ k, k < 7 → w.cell? ⟨q, k, none⟩ = some (.int .u8 (endL.getD k 0))) :
    Calls Tryz.prog 139 #[.slice (some ⟨q, 0, none⟩) 7 7, .int .u8 c] w fun e w' => e = .returned (.bool (endB c)) ∧ w' = w := by
  have H := hid (index7_any q c w hq)
  clear hq
  go_enter Tryz.func139, Tryz.ntmps139
  go_wp2_with fail
  refine H.out.mono ?_
  rintro e w2 ⟨⟨j, rfl, hj, _, _⟩, hw⟩
  obtain rfl : w = w2 := hw.symm
  have HJ := hid hj
  clear hj
  go_wp2_with fail
  go_ret
  exact ⟨ret_bool HJ.out, rfl⟩
end Go.Proofs.YtpnbkecchfhimaaGreatDoor
