/- Chapter 02: the document's texts: the walks. -/
import Derived.Test.YtbkjanlkklmleaaGreatDoorRgY3
import Derived.Test.YtbkjanlkklmleaaGreatDoorRgQ
namespace Go.Proofs.YtbkjanlkklmleaaGreatDoor
open Go.RowKit
open Go.Lib (hid)
set_option linter.unusedVariables false
set_option maxRecDepth 100000

def hx0 (u : Nat) : List UInt8 := if u = 0 then [] else hexD u
theorem hx0_step {u : Nat} (h : u ≠ 0) : hx0 u = hx0 (u / 16) ++ [dg (u % 16)] := by
  unfold hx0
  rw [if_neg h]
  by_cases h16 : u < 16
  · rw [if_pos (by omega), hexD, dif_pos h16, Nat.mod_eq_of_lt h16]; rfl
  · rw [if_neg (by omega), hexD, dif_neg h16]
/-- What the loop makes of the number that is left and the digits so far. -/
def hexZ (u : Nat) (acc : List UInt8) : List UInt8 := List.replicate (4 - acc.length - (hx0 u).length) 48 ++ (hx0 u ++ acc)
theorem hexZ_stop {acc : List UInt8} (h : 4 ≤ acc.length) : hexZ 0 acc = acc := by
  unfold hexZ hx0
  rw [if_pos rfl, show 4 - acc.length - ([] : List UInt8).length = 0 by omega]
  rfl
theorem hexZ_next {u : Nat} {acc : List UInt8} (h : u ≠ 0 ∨ acc.length < 4) : hexZ u acc = hexZ (u / 16) (dg (u % 16) :: acc) := by
  unfold hexZ
  by_cases hu : u = 0
  · subst hu
    have h4 : acc.length < 4 := h.resolve_left (fun h => h rfl)
    have e0 : hx0 0 = [] := rfl
    have e2 : dg (0 % 16) = 48 := rfl
    rw [show 0 / 16 = 0 from rfl, e0, e2, List.length_cons, List.length_nil, show 4 - acc.length - 0 = (4 - (acc.length + 1) - 0) + 1 by omega, List.replicate_succ']
    simp
  · rw [hx0_step hu, List.length_append, List.length_singleton, List.length_cons, show 4 - (acc.length + 1) - (hx0 (u / 16)).length = 4 - acc.length - ((hx0 (u / 16)).length + 1) by omega]
    simp
theorem hexZ_start (u : Nat) : hexZ u [] = hex4D u := by
  unfold hexZ hex4D
  by_cases hu : u = 0
  · subst hu
    have e0 : hx0 0 = [] := rfl
    have e1 : hexD 0 = [48] := by rw [hexD, dif_pos (by decide)]; rfl
    rw [e0, e1]
    rfl
  · have : hx0 u = hexD u := if_neg hu
    rw [this, List.append_nil, List.length_nil, Nat.sub_zero]
theorem hexZ_len (u : Nat) (acc : List UInt8) : acc.length ≤ (hexZ u acc).length := by
  unfold hexZ
  rw [List.length_append, List.length_append]
  omega
theorem digB_at : ∀ k : Fin 16, (⟨#[48, 49, 50, 51, 52, 53, 54, 55, 56, 57, 97, 98, 99, 100, 101, 102]⟩ : ByteArray).extract k.val (k.val + 1) = mkB [dg k.val] := by decide
set_option maxHeartbeats 4000000 in
theorem refhex_any (k : Nat) (hk : k < 16777216) (w : World) : Calls Tryz.prog 21 #[.int .i32 k] w fun e w' => e = .returned (.string (mkB (hex4D k))) ∧ w' = w := by
  have HS := hid (hexZ_start k)
  have HL := hid (hex4D_len k hk)
  have HK := hid hk
  clear hk
  go_enter Tryz.func21, Tryz.ntmps21
  go_wp2_with fail
  go_loopg [0, 3] (k + 4) (fun kx s0 s3 wr => ∃ (u : Nat) (acc : List UInt8) (x : ByteArray), s0 = .int .i32 u ∧ s3 = .string x ∧ wr = w ∧ u + (4 - acc.length) ≤ kx ∧ x.size = acc.length ∧ Hid (x = mkB acc) ∧ Hid (u ≤ k) ∧ Hid (hex4D k = hexZ u acc))
  case atStart => exact ⟨k, [], ⟨#[]⟩, rfl, rfl, rfl, Nat.le_refl _, rfl, rfl, Nat.le_refl _, HS.out.symm⟩
  case round =>
    obtain ⟨u, acc, x, rfl, rfl, hw, hku, hxs, HX, HUK, HZ⟩ := hrel
    obtain rfl : w = wr := hw.symm
    have hal : x.size ≤ 6 := by have h1 := hexZ_len u acc; rw [← HZ.out] at h1; have := HL.out; omega
    have hal2 : acc.length ≤ 6 := by omega
    have HXS := hid hxs
    clear hxs
    by_cases hd : u ≠ 0 ∨ acc.length < 4
    · have HN := hid (HZ.out.trans (hexZ_next hd))
      have hl : ¬ (1 + x.size > 9223372036854775807) := by omega
      have hl2 : ¬ (9223372036854775807 < 1 + x.size) := by omega
      have hb : (⟨#[48, 49, 50, 51, 52, 53, 54, 55, 56, 57, 97, 98, 99, 100, 101, 102]⟩ : ByteArray).extract (u % 16) (u % 16 + 1) = mkB [dg (u % 16)] := digB_at ⟨u % 16, Nat.mod_lt _ (by decide)⟩
      have HBD := hid hb
      have HKU := hid hku
      clear hb hku
      have HD := hid hd
      by_cases hu : u = 0
      · subst hu
        have h4 : acc.length < 4 := hd.resolve_left (fun h => h rfl)
        have h4x : (x.size : Int) < 4 := by have := HXS.out; omega
        have h4n : x.size < 4 := by omega
        clear hd
        go_wp2_with fail
        go_roundg (0 / 16 + (4 - (acc.length + 1)))
        case measure => have := HKU.out; omega
        case rel =>
          exact ⟨0 / 16, dg (0 % 16) :: acc, _, rfl, rfl, rfl, Nat.le_refl _, (by rw [ByteArray.size_append, HXS.out]; show 1 + acc.length = _; rw [List.length_cons]; omega), (by rw [HX.out]; exact mkB_append [dg (0 % 16)] acc), Nat.zero_le _, HN⟩
      · have hu0 : (0 : Int) < (u : Int) := by omega
        have HU := hid hu
        clear hd hu
        go_wp2_with fail
        go_roundg (u / 16 + (4 - (acc.length + 1)))
        case measure => have := HKU.out; have := HU.out; omega
        case rel =>
          rw [HBD.out]
          exact ⟨u / 16, dg (u % 16) :: acc, mkB [dg (u % 16)] ++ x, (by congr 1; have := HUK.out; have := HK.out; unfold RowKit.wrap32; omega), rfl, rfl, (by rw [List.length_cons]; exact Nat.le_refl _), (by rw [ByteArray.size_append, HXS.out]; show 1 + acc.length = _; rw [List.length_cons]; omega), (by rw [HX.out]; exact mkB_append _ _), (by show _ ≤ _; have := HUK.out; omega), HN⟩
    · have hu : u = 0 := by omega
      subst hu
      have h4 : ¬ (x.size : Int) < 4 := by have := HXS.out; omega
      have h4n : ¬ x.size < 4 := by omega
      have HE := hid (show mkB (hex4D k) = x by rw [HX.out, HZ.out, hexZ_stop (by omega)])
      clear hd hku
      go_wp2_with fail
      go_ret
      rw [HE.out]
      exact ⟨rfl, rfl⟩
end Go.Proofs.YtbkjanlkklmleaaGreatDoor
