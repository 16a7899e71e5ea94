/- Chapter 18: where a reader stands. -/
import Derived.WalkKit
import Derived.BigQuiet
import Derived.Test.YtpkbmgpbagdalaaProg
import Derived.Test.YtpkbmgpbagdalaaBase
namespace Go.Proofs.Ytpkbmgpbagdalaa
open Go.RowKit
open Go.Lib (hid)
set_option linter.unusedVariables false

/-- A reader's place: its bytes, and where it stands. -/
def PlaceAt (w : World) (g : Nat) (b off n cap i : Nat) : Prop := w.cell? ⟨g, 0, none⟩ = some (.slice (some ⟨b, off, none⟩) n cap) ∧ w.cell? ⟨g, 1, none⟩ = some (.int .i64 i)

theorem over_any (g b off n cap i : Nat) (w : World) (h : PlaceAt w g b off n cap i) : Calls Try.prog 48 #[.pointer (some ⟨g, 0, none⟩)] w fun e w' => e = .returned (.bool (decide (n ≤ i))) ∧ ∃ q, w' = w.drewN q := by
  obtain ⟨h1, h2⟩ := h
  by_cases hlt : n ≤ i
  · have hlt' : (n : Int) ≤ (i : Int) := by omega
    go_enter Try.func48, Try.ntmps48
    go_wp2_with fail
    go_quiet (fail)
    go_wp2_with fail
    go_ret
    exact ⟨ret_bool (by simp [hlt]), _, rfl⟩
  · have hlt' : ¬ (n : Int) ≤ (i : Int) := by omega
    go_enter Try.func48, Try.ntmps48
    go_wp2_with fail
    go_quiet (fail)
    go_wp2_with fail
    go_ret
    exact ⟨ret_bool (by simp [hlt]), _, rfl⟩

theorem peek_in (g b off n cap i : Nat) (c : Int) (w : World) (h : PlaceAt w g b off n cap i) (hlt : i < n) (hc : w.cell? ⟨b, off + i, none⟩ = some (.int .u8 c)) :
    Calls Try.prog 50 #[.pointer (some ⟨g, 0, none⟩)] w fun e w' => e = .returned (.int .u8 c) ∧ ∃ q, w' = w.drewN q := by
  obtain ⟨h1, h2⟩ := h
  have hlt' : (i : Int) < (n : Int) := by omega
  go_enter Try.func50, Try.ntmps50
  go_wp2_with fail
  go_quiet (fail)
  go_wp2_with fail
  go_quiet (fail)
  go_wp2_with fail
  go_ret
  exact ⟨rfl, _, World.drewN_drewN ..⟩

theorem peek_out (g b off n cap i : Nat) (w : World) (h : PlaceAt w g b off n cap i) (hlt : ¬ i < n) :
    Calls Try.prog 50 #[.pointer (some ⟨g, 0, none⟩)] w fun e w' => e = .returned (.int .u8 0) ∧ ∃ q, w' = w.drewN q := by
  obtain ⟨h1, h2⟩ := h
  have hlt' : ¬ (i : Int) < (n : Int) := by omega
  go_enter Try.func50, Try.ntmps50
  go_wp2_with fail
  go_quiet (fail)
  go_wp2_with fail
  go_ret
  exact ⟨rfl, _, rfl⟩
end Go.Proofs.Ytpkbmgpbagdalaa
