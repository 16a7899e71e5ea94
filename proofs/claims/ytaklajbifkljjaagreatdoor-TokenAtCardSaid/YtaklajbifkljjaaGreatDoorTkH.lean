/- Chapter 19: the law's own decimal numbers: the walk. -/
import Derived.Test.YtaklajbifkljjaaGreatDoorTkG
namespace Go.Proofs.YtaklajbifkljjaaGreatDoor
open Go.RowKit Go.Shelf
open Go.Lib (hid)
set_option linter.unusedVariables false
set_option maxRecDepth 100000

def dcd (k : Nat) : UInt8 := UInt8.ofNat (48 + k)
def dz (u : Nat) : List UInt8 := if u = 0 then [] else Lib.decDigits u
theorem dz_step {u : Nat} (h : u ≠ 0) : dz u = dz (u / 10) ++ [dcd (u % 10)] := by
  unfold dz
  rw [if_neg h]
  by_cases h10 : u < 10
  · rw [if_pos (by omega), Lib.decDigits, dif_pos h10, Nat.mod_eq_of_lt h10]; rfl
  · rw [if_neg (by omega), Lib.decDigits, dif_neg h10]; rfl
def dd (u : Nat) (acc : List UInt8) : List UInt8 := if acc = [] then Lib.decDigits u else dz u ++ acc
theorem dd_next {u : Nat} {acc : List UInt8} (h : u ≠ 0 ∨ acc = []) : dd u acc = dd (u / 10) (dcd (u % 10) :: acc) := by
  have hr : dd (u / 10) (dcd (u % 10) :: acc) = dz (u / 10) ++ dcd (u % 10) :: acc := by unfold dd; rw [if_neg (by simp)]
  rw [hr]
  unfold dd
  by_cases ha : acc = []
  · rw [if_pos ha, ha]
    by_cases h10 : u < 10
    · rw [Lib.decDigits, dif_pos h10, Nat.mod_eq_of_lt h10, show u / 10 = 0 by omega]; rfl
    · unfold dz
      rw [if_neg (by omega), Lib.decDigits, dif_neg h10]; rfl
  · rw [if_neg ha, dz_step (h.resolve_right ha)]
    simp
theorem dd_stop {acc : List UInt8} (h : acc ≠ []) : dd 0 acc = acc := by
  unfold dd
  rw [if_neg h]
  rfl
theorem dd_len (u : Nat) (acc : List UInt8) : acc.length ≤ (dd u acc).length := by
  unfold dd
  split
  · rename_i h
    rw [h]
    exact Nat.zero_le _
  · rw [List.length_append]
    omega
theorem dcd_at : ∀ k : Fin 10, (⟨#[48, 49, 50, 51, 52, 53, 54, 55, 56, 57]⟩ : ByteArray).extract k.val (k.val + 1) = Hx.mkB [dcd k.val] := by decide
theorem decDigits_len21 (u : Nat) (h : u ≤ 9223372036854775808) : (Lib.decDigits u).length ≤ 20 := by
  rw [Lib.decDigits_length]
  exact Lib.nDigits_le20 u (by omega)
set_option maxHeartbeats 4000000 in
theorem num_pos (k : Nat) (hk : k ≤ 9223372036854775807) (w : World) : Calls Tryz.prog 28 #[.int .i64 k] w fun e w' => e = .returned (.string (itoaB k)) ∧ w' = w := by
  have HS := hid (show itoaB k = Hx.mkB (dd k []) by unfold itoaB dd; rw [Lib.itoa_nonneg, if_pos rfl]; rfl)
  have HL := hid (show (dd k []).length ≤ 20 by unfold dd; rw [if_pos rfl]; exact decDigits_len21 k (by omega))
  have HK := hid hk
  have hk0 : ¬ (k : Int) < 0 := by omega
  generalize itoaB k = R at *
  generalize hD : dd k [] = D at *
  have HD := hid hD
  clear hk hD
  go_enter Tryz.func28, Tryz.ntmps28
  go_wp2_with fail
  go_loopg [0, 5] (k + 1) (fun kx s0 s5 wr => ∃ (u : Nat) (acc : List UInt8) (x : ByteArray), s0 = .int .i64 u ∧ s5 = .string x ∧ wr = w ∧ u + (1 - acc.length) ≤ kx ∧ Hid (x.size = acc.length) ∧ x.size ≤ 20 ∧ Hid (x = Hx.mkB acc) ∧ Hid (u ≤ k) ∧ Hid (D = dd u acc))
  case atStart => exact ⟨k, [], ⟨#[]⟩, rfl, rfl, rfl, Nat.le_refl _, rfl, Nat.zero_le _, rfl, Nat.le_refl _, HD.out.symm⟩
  case round =>
    obtain ⟨u, acc, x, rfl, rfl, hw, hku, HXS, hx20, HX, HUK, HZ⟩ := hrel
    obtain rfl : w = wr := hw.symm
    by_cases hd : u ≠ 0 ∨ acc = []
    · have HN := hid (HZ.out.trans (dd_next hd))
      have hl : ¬ (1 + x.size > 9223372036854775807) := by omega
      have hl2 : ¬ (9223372036854775807 < 1 + x.size) := by omega
      have hb : (⟨#[48, 49, 50, 51, 52, 53, 54, 55, 56, 57]⟩ : ByteArray).extract (u % 10) (u % 10 + 1) = Hx.mkB [dcd (u % 10)] := dcd_at ⟨u % 10, Nat.mod_lt _ (by decide)⟩
      have HBD := hid hb
      have hns : 1 + x.size ≤ 20 := by
        have h1 := dd_len (u / 10) (dcd (u % 10) :: acc)
        rw [← HN.out, List.length_cons] at h1
        have := HL.out
        have := HXS.out
        omega
      have HNS := hid hns
      have HKU := hid hku
      have HD2 := hid hd
      clear hb hku hns
      by_cases hu : u = 0
      · subst hu
        have ha : acc = [] := hd.resolve_left (fun h => h rfl)
        subst ha
        obtain rfl : x = ⟨#[]⟩ := HX.out
        clear hd
        go_wp2_with fail
        go_roundg (0 / 10 + (1 - ([dcd (0 % 10)] : List UInt8).length))
        case measure => have := HKU.out; simp; simp at this; omega
        case rel =>
          exact ⟨0 / 10, [dcd (0 % 10)], _, rfl, rfl, rfl, Nat.le_refl _, rfl, by decide, rfl, Nat.zero_le _, HN.out⟩
      · have hu0 : (0 : Int) < (u : Int) := by omega
        have HU := hid hu
        clear hd hu
        go_wp2_with fail
        go_roundg (u / 10 + (1 - (dcd (u % 10) :: acc).length))
        case measure => have := HKU.out; have := HU.out; rw [List.length_cons]; omega
        case rel =>
          rw [HBD.out]
          exact ⟨u / 10, dcd (u % 10) :: acc, Hx.mkB [dcd (u % 10)] ++ x, (by congr 1; have := HUK.out; have := HK.out; unfold RowKit.wrap64; omega), rfl, rfl, Nat.le_refl _, (by show _ = _; rw [ByteArray.size_append, HXS.out]; show 1 + acc.length = _; rw [List.length_cons]; omega), (by rw [ByteArray.size_append]; exact HNS.out), (by rw [HX.out]; exact Hx.mkB_append _ _), (by show _ ≤ _; have := HUK.out; omega), HN⟩
    · have hu : u = 0 := by
        rcases Nat.eq_zero_or_pos u with h | h
        · exact h
        · exact absurd (.inl (by omega)) hd
      subst hu
      have hac : acc ≠ [] := fun h => hd (.inr h)
      have hx0 : ¬ x.toList = [] := fun e => hac (by
        have h1 : x.size = 0 := by
          have := congrArg List.length e
          rw [Lib.toList_data] at this
          exact this
        rw [HXS.out] at h1
        exact List.eq_nil_of_length_eq_zero h1)
      have hx1 : (x.toList == []) = false := by simpa using hx0
      have HE := hid (show R = x by rw [HS.out, HX.out, HZ.out, dd_stop hac])
      clear hd hku hac
      go_wp2_with fail
      go_ret
      rw [HE.out]
      exact ⟨rfl, rfl⟩
set_option maxHeartbeats 4000000 in
theorem num_neg (k : Nat) (hk0 : 0 < k) (hk : k ≤ 9223372036854775808) (w : World) : Calls Tryz.prog 28 #[.int .i64 (-(k : Int))] w fun e w' => e = .returned (.string (itoaB (-(k : Int)))) ∧ w' = w := by
  have HS := hid (show itoaB (-(k : Int)) = ⟨#[45]⟩ ++ Hx.mkB (dz k) by
    unfold itoaB dz
    rw [Lib.itoa_neg k hk0, if_neg (by omega)]
    exact (Hx.mkB_append [45] _).symm)
  have HL := hid (show (dz k).length ≤ 20 by unfold dz; rw [if_neg (by omega)]; exact decDigits_len21 k hk)
  have HK := hid hk
  have hkn : -(k : Int) < 0 := by omega
  generalize itoaB (-(k : Int)) = R at *
  generalize hD : dz k = D at *
  have HD := hid hD
  clear hk hD
  go_enter Tryz.func28, Tryz.ntmps28
  go_wp2_with fail
  go_loopg [0, 3] k (fun kx s0 s3 wr => ∃ (u : Nat) (acc : List UInt8) (x : ByteArray), s0 = .int .i64 (-(u : Int)) ∧ s3 = .string x ∧ wr = w ∧ u ≤ kx ∧ Hid (x.size = acc.length) ∧ x.size ≤ 20 ∧ Hid (x = Hx.mkB acc) ∧ Hid (u ≤ k) ∧ Hid (D = dz u ++ acc))
  case atStart => exact ⟨k, [], ⟨#[]⟩, rfl, rfl, rfl, Nat.le_refl _, rfl, Nat.zero_le _, rfl, Nat.le_refl _, by show _ = _; rw [HD.out, List.append_nil]⟩
  case round =>
    obtain ⟨u, acc, x, rfl, rfl, hw, hku, HXS, hx20, HX, HUK, HZ⟩ := hrel
    obtain rfl : w = wr := hw.symm
    by_cases hu : u = 0
    · subst hu
      have HE := hid (show R = ⟨#[45]⟩ ++ x by rw [HS.out, HX.out, HZ.out]; rfl)
      rw [show (-((0 : Nat) : Int)) = 0 from rfl]
      have hl : ¬ (1 + x.size > 9223372036854775807) := by omega
      have hl2 : ¬ (9223372036854775807 < 1 + x.size) := by omega
      go_wp2_with fail
      go_ret
      rw [HE.out]
      exact ⟨rfl, rfl⟩
    · have hl : ¬ (1 + x.size > 9223372036854775807) := by omega
      have hl2 : ¬ (9223372036854775807 < 1 + x.size) := by omega
      have hb : (⟨#[48, 49, 50, 51, 52, 53, 54, 55, 56, 57]⟩ : ByteArray).extract (u % 10) (u % 10 + 1) = Hx.mkB [dcd (u % 10)] := dcd_at ⟨u % 10, Nat.mod_lt _ (by decide)⟩
      have HBD := hid hb
      have HN := hid (show D = dz (u / 10) ++ (dcd (u % 10) :: acc) by rw [HZ.out, dz_step hu]; simp)
      have hns : 1 + x.size ≤ 20 := by
        have h1 := congrArg List.length HN.out
        rw [List.length_append, List.length_cons] at h1
        have := HL.out
        have := HXS.out
        omega
      have HNS := hid hns
      have hun : ¬ -(u : Int) = 0 := by omega
      have hunb : (-(u : Int) != 0) = true := by simpa using hun
      have HU := hid hu
      clear hb hns hu
      go_wp2_with fail
      go_roundg (u / 10)
      case measure => have := HU.out; omega
      case rel =>
        rw [HBD.out]
        exact ⟨u / 10, dcd (u % 10) :: acc, Hx.mkB [dcd (u % 10)] ++ x, (by congr 1; have := HUK.out; have := HK.out; unfold RowKit.wrap64; omega), rfl, rfl, Nat.le_refl _, (by show _ = _; rw [ByteArray.size_append, HXS.out]; show 1 + acc.length = _; rw [List.length_cons]; omega), (by rw [ByteArray.size_append]; exact HNS.out), (by rw [HX.out]; exact Hx.mkB_append _ _), (by show _ ≤ _; have := HUK.out; omega), HN⟩
theorem num_any (z : Int) (h0 : -9223372036854775808 ≤ z) (h1 : z ≤ 9223372036854775807) (w : World) : Calls Tryz.prog 28 #[.int .i64 z] w fun e w' => e = .returned (.string (itoaB z)) ∧ w' = w := by
  by_cases hz : z < 0
  · have := num_neg z.natAbs (by omega) (by omega) w
    rw [show -((z.natAbs : Nat) : Int) = z by omega] at this
    exact this
  · have := num_pos z.natAbs (by omega) w
    rw [show ((z.natAbs : Nat) : Int) = z by omega] at this
    exact this
end Go.Proofs.YtaklajbifkljjaaGreatDoor
