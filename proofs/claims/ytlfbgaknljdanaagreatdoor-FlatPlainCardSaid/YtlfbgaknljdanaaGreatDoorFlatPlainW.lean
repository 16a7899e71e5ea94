/- The walk of the law FlatPlain. -/
import Derived.Test.YtlfbgaknljdanaaGreatDoorExLaid
import Derived.Test.YtlfbgaknljdanaaGreatDoorFlM1
import Derived.Test.YtlfbgaknljdanaaGreatDoorFlP
import Derived.Test.YtlfbgaknljdanaaGreatDoorExM4
import Derived.StillTailTactics
import Derived.BigQuiet
import Derived.Test.YtlfbgaknljdanaaGreatDoorOpen
namespace Go.Proofs.YtlfbgaknljdanaaGreatDoor.flatPlain
open Go.RowKit Go.Shelf
open Go.Lib (hid)
set_option linter.unusedVariables false
set_option linter.unusedSimpArgs false
set_option maxRecDepth 100000

set_option maxHeartbeats 8000000 in
theorem walk (b : Option Addr) (bLen bCap : Nat) (bD : List Int) (at_ : Int) (w : World) (w0 : IsRow .u8 w b bLen bCap bD) (w1 : (Lit.int .i64 at_).wf = true) (hsh : w.ShapedOpen Tryz.prog) (hsp : TabSp w) :
    Calls Tryz.prog 7 #[.slice b bLen bCap, .int .i64 at_] w fun e w' => e = .returned (.bool true) ∧ Below w.heap.size w w' := by
  have hmx := mx_of hsh
  obtain ⟨s, hba⟩ := ba_of w0
  have HAW := hid (fun W (h : Below w.heap.size w W) => flawake_any W (hsp.below h (Nat.le_refl _)) (hmx.below h (Nat.le_refl _)))
  by_cases hbig : 300 < bLen
  · have hbig' : (300 : Int) < (bLen : Int) := by omega
    clear hba w0 w1
    go_enter Tryz.func7, Tryz.ntmps7
    go_wp2_with fail
    refine (HAW.out _ (Below.refl _ _)).mono ?_
    rintro e w2 ⟨rfl, hb2⟩
    have HB2 := hid hb2
    clear hb2
    go_wp2_with fail
    go_ret
    exact ⟨rfl, HB2.out⟩
  have hbig' : ¬ (300 : Int) < (bLen : Int) := by omega
  have HNEW := hid (fun W (h : Below w.heap.size w W) => flNew_any b bLen bCap s W (hba.below h (Nat.le_refl _)) (hmx.below h (Nat.le_refl _)) (hsp.below h (Nat.le_refl _)) (by omega))
  have HREF := hid (fun W (h : Below w.heap.size w W) => refAll23_any b bLen bCap s W (hba.below h (Nat.le_refl _)) (by omega))
  have hl300 : (exAll s).length ≤ 300 := by
    have := exAll_len s
    have := hba.1
    omega
  have HLS := hid hba.1
  have HEND := hid (fun h => rawF_end s h)
  have HLF := hid (fun a k w => least_found (s := s) (a := a) (k := k) (w := w))
  clear hba w0 hmx hsp hsh w1
  go_enter Tryz.func7, Tryz.ntmps7
  go_wp2_with fail
  refine (HAW.out _ (Below.refl _ _)).mono ?_
  rintro e w2 ⟨rfl, hb2⟩
  have HB2 := hid hb2
  clear hb2
  go_wp2_with fail
  refine (HNEW.out _ HB2.out).mono ?_
  rintro e w3 ⟨g, rfl, _, hfl, hb3⟩
  have HB3 := hid (HB2.out.trans (hb3.mono HB2.out.size))
  have HPL := hid (Plain_any g s (exAll s) at_ w3 hfl (by omega))
  clear hb3 hfl HAW HNEW
  go_wp2_with fail
  refine HPL.out.mono ?_
  rintro e w4 ⟨hp, hb4⟩
  have HB4 := hid (HB3.out.trans (hb4.mono HB3.out.size))
  clear hb4 HPL
  unfold PlainR at hp
  rw [← HLS.out] at hp
  by_cases hlo : at_ < 0 ∨ (bLen : Int) < at_
  · rw [if_pos hlo] at hp
    subst hp
    rcases hlo with h1 | h1
    · go_wp2_with fail
      go_ret
      exact ⟨rfl, HB4.out⟩
    · by_cases h0 : at_ < 0
      · go_wp2_with fail
        go_ret
        exact ⟨rfl, HB4.out⟩
      · go_wp2_with fail
        go_ret
        exact ⟨rfl, HB4.out⟩
  rw [if_neg hlo] at hp
  have h0 : ¬ at_ < 0 := fun h => hlo (.inl h)
  have h1 : ¬ (bLen : Int) < at_ := fun h => hlo (.inr h)
  obtain ⟨nn, he, hnn⟩ : ∃ nn : Nat, e = .returned (.tuple #[.int .i64 nn, .bool true]) ∧ ∀ v, (at_ = 0 → v = 0) → (at_ ≠ 0 → LeastP s (exAll s) at_ 0 v) → v = nn := by
    by_cases hz : at_ = 0 ∨ (exAll s).length = 0
    · rw [if_pos hz] at hp
      refine ⟨0, hp, fun v ha hb => ?_⟩
      by_cases hz0 : at_ = 0
      · exact ha hz0
      · have hl0 : (exAll s).length = 0 := hz.resolve_left hz0
        rcases hb hz0 with ⟨h, _⟩ | ⟨h, h2, _⟩
        · exact h
        · omega
    · rw [if_neg hz] at hp
      obtain ⟨k, hf, hp⟩ := hp
      refine ⟨1 + k, hp, fun v ha hb => ?_⟩
      have hz0 : at_ ≠ 0 := fun h => hz (.inl h)
      have hl0 : (exAll s).length ≠ 0 := fun h => hz (.inr h)
      refine HLF.out at_ k v hl0 (by have := HLS.out; omega) (by omega) (hb hz0) hf.le ?_ ?_
      · rcases hf.at_ with h | h
        · exact .inl h
        · exact .inr (of_decide_eq_true h)
      · rcases hf.ahead with h | h
        · exact .inl h
        · right
          have := of_decide_eq_false h
          omega
  subst he
  have HNN := hid hnn
  clear hp hnn hlo
  go_wp2_with fail
  refine (HREF.out _ HB4.out).mono ?_
  rintro e w5 ⟨v, rfl, hrow, hb5⟩
  obtain ⟨A, cap, rfl, hir⟩ := IR.of_own hrow
  have HB5 := hid (HB4.out.trans (hb5.mono HB4.out.size))
  have HRF := hid (fun i (hi : i ≤ (exAll s).length) => refRaw_any A _ cap s (exAll s) i w5 hir hi)
  rw [← HLS.out] at HRF
  clear hb5 hrow hir HREF
  obtain ⟨l, hl⟩ : ∃ l, l = exAll s := ⟨_, rfl⟩
  rw [← hl] at HRF HNN hl300 ⊢
  have HLE := hid hl
  clear hl HEND HLF
  obtain ⟨n, hn⟩ : ∃ n, n = l.length := ⟨_, rfl⟩
  have HN := hid hn
  rw [← hn] at HRF hl300 ⊢
  clear hn
  have HL2 := hid (show ∀ j, n < j → j ≤ l.length → ((rawF s l j : Nat) : Int) < at_ from fun j h1 h2 => by have := HN.out; omega)
  go_wp2_with fail
  go_loopg [8, 9] n (fun kx s8 s9 wr => ∃ (i wt : Nat), s8 = .int .i64 wt ∧ s9 = .int .i64 i ∧ i ≤ n ∧ i ≤ kx ∧ Hid (wr = w5) ∧ Hid (at_ ≠ 0 → LeastP s l at_ i wt) ∧ Hid (at_ = 0 → wt = 0))
  case atStart => exact ⟨n, 0, rfl, rfl, Nat.le_refl _, Nat.le_refl _, rfl, fun _ => .inl ⟨rfl, HL2.out⟩, fun _ => rfl⟩
  case round =>
    obtain ⟨i, wt, rfl, rfl, hi, hg, HW, HLP, HZ⟩ := hrel
    obtain rfl : wr = w5 := HW.out
    by_cases hz : at_ = 0
    · have hwt := HNN.out wt HZ.out (fun h => absurd hz h)
      subst hz
      subst hwt
      clear h0 h1
      go_wp2_with fail
      all_goals go_ret
      all_goals exact ⟨rfl, HB5.out⟩
    · have hzp : 0 < at_ := by omega
      cases i with
      | zero =>
        have hwt := HNN.out wt HZ.out HLP.out
        subst hwt
        clear h0 h1 hz
        go_wp2_with fail
        go_ret
        exact ⟨rfl, HB5.out⟩
      | succ i =>
        have HC := hid (HRF.out (i + 1) hi)
        have hlp := HLP.out hz
        have hil : i + 1 ≤ l.length := by rw [← HN.out]; exact hi
        have hi1 : (1 : Int) ≤ ((i + 1 : Nat) : Int) := by omega
        have his : ((i + 1 : Nat) : Int) - 1 = (i : Int) := by omega
        have hib : ((i + 1 : Nat) : Int) ≤ 300 := by omega
        have HZN := hid hz
        have hin : i ≤ n := by omega
        have hik : i < gk := by omega
        by_cases hp : at_ ≤ ((rawF s l (i + 1) : Nat) : Int)
        · have HNX := hid (hlp.hit hil hp)
          generalize rawF s l (i + 1) = r at *
          generalize hi2 : i + 1 = i2 at *
          have HI2 := hid hi2
          clear hlp hil hi2 hi hg h0 h1 hz
          go_wp2_with fail
          refine HC.out.mono ?_
          rintro e w6 ⟨rfl, hw6⟩
          obtain rfl := hw6
          go_wp2_with fail
          go_roundg i
          case measure => omega
          case rel => exact ⟨i, i2, rfl, rfl, by omega, Nat.le_refl _, rfl, fun _ => HNX.out, fun h => absurd h HZN.out⟩
        · have HNX := hid (hlp.miss (by omega))
          generalize rawF s l (i + 1) = r at *
          generalize hi2 : i + 1 = i2 at *
          have HI2 := hid hi2
          clear hlp hil hi2 hi hg h0 h1 hz
          go_wp2_with fail
          refine HC.out.mono ?_
          rintro e w6 ⟨rfl, hw6⟩
          obtain rfl := hw6
          go_wp2_with fail
          go_roundg i
          case measure => omega
          case rel => exact ⟨i, wt, rfl, rfl, by omega, Nat.le_refl _, rfl, fun _ => HNX.out, fun h => absurd h HZN.out⟩
end Go.Proofs.YtlfbgaknljdanaaGreatDoor.flatPlain
