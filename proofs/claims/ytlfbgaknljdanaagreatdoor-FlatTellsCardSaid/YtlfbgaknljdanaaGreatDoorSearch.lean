/- Walk of sort.Search, with whatever closure. -/
import Derived.Test.YtlfbgaknljdanaaGreatDoorProg
import Derived.Test.YtlfbgaknljdanaaGreatDoorBase
import Derived.Shelf.Abstract
import Derived.Deep.LoopGhost
namespace Go.Proofs.YtlfbgaknljdanaaGreatDoor
open Go.RowKit
open Go.Lib
open Go.Shelf

/-- What sort.Search answers of a predicate, whatever it is. -/
structure Found (n : Nat) (p : Nat → Bool) (k : Nat) : Prop where
  le : k ≤ n
  at_ : k = n ∨ p k = true
  ahead : k = 0 ∨ p (k - 1) = false

set_option maxHeartbeats 1000000 in
theorem search_any (g : Nat) (cb : Array Value) (n : Nat) (p : Nat → Bool) (I : World → Prop) (w : World) (eg : ∀ args w, (callFunc g args).run Tryz.prog w = .ok (.enter g args) w) (hsz : n < 4611686018427387904)
    (hf : ∀ (W : World) (i : Nat), I W → i < n → Calls Tryz.prog g (#[.int .i64 i] ++ cb) W fun e w' => e = .returned (.bool (p i)) ∧ I w') (hI : I w) :
    Calls Tryz.prog 46 #[.int .i64 n, .func (.func g) #[] cb] w fun e w' => ∃ k : Nat, e = .returned (.int .i64 k) ∧ Found n p k ∧ I w' := by
  have HF := Lib.hid hf
  clear hf
  have HI := Lib.hid hI
  clear hI
  go_enter Tryz.func46, Tryz.ntmps46
  go_wp2
  go_loopg [5, 6] n (fun kx s5 s6 wr => ∃ (lo hi : Nat), s5 = .int .i64 lo ∧ s6 = .int .i64 hi ∧ lo ≤ hi ∧ hi ≤ n ∧ hi - lo ≤ kx ∧ Hid (I wr ∧ (hi = n ∨ p hi = true) ∧ (lo = 0 ∨ p (lo - 1) = false)))
  case atStart => exact ⟨0, n, rfl, rfl, Nat.zero_le _, Nat.le_refl _, by omega, HI.out, .inl rfl, .inl rfl⟩
  case round =>
    obtain ⟨lo, hi, rfl, rfl, hlh, hin, hg, HQ⟩ := hrel
    by_cases hlt : lo < hi
    · have hc := HF.out wr ((lo + hi) / 2) HQ.out.1 (by omega)
      rw [show (((lo + hi) / 2 : Nat) : Int) = ((lo : Int) + (hi : Int)) / 2 by omega] at hc
      cases hp : p ((lo + hi) / 2) <;> rw [hp] at hc
      · have HP := Lib.hid hp
        clear hp
        go_wp2_with (go_at_fn g; refine hc.mono ?_; rintro e w' ⟨rfl, hi2⟩)
        have HI2 := Lib.hid hi2
        clear hi2
        go_roundg (hi - ((lo + hi) / 2 + 1))
        case measure => omega
        case rel =>
          exact ⟨(lo + hi) / 2 + 1, hi, by rw [show ((lo : Int) + (hi : Int)) / 2 + 1 = (((lo + hi) / 2 + 1 : Nat) : Int) by omega], rfl, by omega, hin, Nat.le_refl _, HI2.out, HQ.out.2.1, .inr HP.out⟩
      · have HP := Lib.hid hp
        clear hp
        go_wp2_with (go_at_fn g; refine hc.mono ?_; rintro e w' ⟨rfl, hi2⟩)
        have HI2 := Lib.hid hi2
        clear hi2
        go_roundg ((lo + hi) / 2 - lo)
        case measure => omega
        case rel =>
          exact ⟨lo, (lo + hi) / 2, rfl, by rw [show ((lo : Int) + (hi : Int)) / 2 = (((lo + hi) / 2 : Nat) : Int) by omega], by omega, by omega, Nat.le_refl _, HI2.out, .inr HP.out, HQ.out.2.2⟩
    · obtain rfl : hi = lo := by omega
      go_wp2
      go_ret
      exact ⟨hi, rfl, ⟨hin, HQ.out.2.1, HQ.out.2.2⟩, HQ.out.1⟩
end Go.Proofs.YtlfbgaknljdanaaGreatDoor
