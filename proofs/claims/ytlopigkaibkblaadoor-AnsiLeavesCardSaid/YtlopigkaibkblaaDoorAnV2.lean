/- Chapter 01's answer: a scalar's bytes: the walk. -/
import Derived.Test.YtlopigkaibkblaaDoorAnV
import Derived.Test.YtlopigkaibkblaaDoorAnW2
namespace Go.Proofs.YtlopigkaibkblaaDoor
open Go.RowKit
open Go.Lib (hid)
set_option linter.unusedVariables false

theorem refright_any (r : Int) (w : World) : Calls Tryd.prog 25 #[.int .i32 r] w fun e w' => e = .returned (.bool (rightR r)) ∧ w' = w := by
  by_cases h1 : 0 ≤ r
  · by_cases h2 : r ≤ 1114111
    · by_cases h3 : r < 55296
      · have HB := hid (show rightR r = true by simp [rightR]; omega)
        go_enter Tryd.func25, Tryd.ntmps25
        go_wp2
        go_ret
        exact ⟨ret_bool HB.out.symm, rfl⟩
      · by_cases h4 : 57343 < r
        · have HB := hid (show rightR r = true by simp [rightR]; omega)
          go_enter Tryd.func25, Tryd.ntmps25
          go_wp2
          go_ret
          exact ⟨ret_bool HB.out.symm, rfl⟩
        · have HB := hid (show rightR r = false by simp [rightR]; omega)
          go_enter Tryd.func25, Tryd.ntmps25
          go_wp2
          go_ret
          exact ⟨ret_bool HB.out.symm, rfl⟩
    · have HB := hid (show rightR r = false by simp [rightR]; omega)
      go_enter Tryd.func25, Tryd.ntmps25
      go_wp2
      go_ret
      exact ⟨ret_bool HB.out.symm, rfl⟩
  · have HB := hid (show rightR r = false by simp [rightR]; omega)
    go_enter Tryd.func25, Tryd.ntmps25
    go_wp2
    go_ret
    exact ⟨ret_bool HB.out.symm, rfl⟩

theorem ne_first {W : World} {B : Nat} {e : TypeId} {k n : Nat} {vb vc v' : Value} {xs : List Value} (hne : ∀ k, vc.ownBlock = some k → vb.ownBlock ≠ some k) (hC : W.ownsRow B e k vc n xs) (hl : v'.ownBlock = vb.ownBlock ∨ v'.ownBlock = some W.heap.size) :
    ∀ k, vc.ownBlock = some k → v'.ownBlock ≠ some k := by
  intro q hq
  rcases hl with e1 | e1
  · rw [e1]; exact hne q hq
  · rw [e1]
    have := own_lt hC hq
    intro e2
    cases e2
    exact Nat.lt_irrefl _ this
theorem ne_second {W : World} {B : Nat} {e : TypeId} {k n : Nat} {vb vc v' : Value} {xs : List Value} (hne : ∀ k, vc.ownBlock = some k → vb.ownBlock ≠ some k) (hB : W.ownsRow B e k vb n xs) (hl : v'.ownBlock = vc.ownBlock ∨ v'.ownBlock = some W.heap.size) :
    ∀ k, v'.ownBlock = some k → vb.ownBlock ≠ some k := by
  intro q hq
  rcases hl with e1 | e1
  · rw [e1] at hq; exact hne q hq
  · rw [e1] at hq
    cases hq
    intro e2
    have := own_lt hB e2
    exact Nat.lt_irrefl _ this
theorem ne_flip {vb vc : Value} (h : ∀ k, vc.ownBlock = some k → vb.ownBlock ≠ some k) : ∀ k, vb.ownBlock = some k → vc.ownBlock ≠ some k := fun k h1 h2 => h k h2 h1
/-- New bytes, as a result. -/
def NewB (B : Nat) (w : World) (v : Value) (s : ByteArray) : Prop := v = .slice (some ⟨B, 0, none⟩) s.size s.size ∧ BA w (some ⟨B, 0, none⟩) s.size s.size s
theorem newB_of (w : World) (t : TypeId) (zs : List Int) (cs : Array Value) (n : Nat) (hn : zs.length = n) (hs : n ≤ 100) (hc : cs = (zs.map (Value.int .u8)).toArray) (hz : ∀ y ∈ zs, 0 ≤ y ∧ y ≤ 255) :
    NewB w.heap.size (w.alloc (.cells cs t)) (.slice (some ⟨w.heap.size, 0, none⟩) n n) (ofInts zs) := by
  subst hc
  have he : (ofInts zs).size = n := by rw [ofInts_size, hn]
  refine ⟨by rw [he], rfl, Nat.le_refl _, by omega, fun h0 => ⟨w.heap.size, 0, rfl, by simp, ?_⟩⟩
  apply bytes_of_byt
  intro i hi
  rw [Nat.zero_add, ofInts_byt zs hz i (by omega), (Blk.new w t _).cell i]
  simp [List.getD_eq_getElem?_getD, show i < zs.length by omega]

set_option maxRecDepth 100000 in
set_option maxHeartbeats 4000000 in
theorem refput_any (r : Int) (w : World) : Calls Tryd.prog 17 #[.int .i32 r] w fun e w' => ∃ v, e = .returned v ∧ NewB w.heap.size w' v (putB r) ∧ Below w.heap.size w w' := by
  have HR := hid (refright_any r)
  have hmem := fun y hy => (putI_mem r y hy).1
  have HM := hid hmem
  clear hmem
  cases hr : rightR r
  · rw [hr] at HR
    have hp : putI r = [239, 191, 189] := by unfold putI; rw [hr, if_neg (by decide)]; decide
    have HP := hid hp
    clear hr hp
    go_enter Tryd.func17, Tryd.ntmps17
    go_wp2_with (go_at_call 25; refine (HR.out _).mono ?_; rintro e w' ⟨rfl, hw⟩; obtain rfl : w = w' := hw.symm)
    go_ret
    exact ⟨_, rfl, newB_of w _ _ _ _ (by rw [HP.out]; rfl) (by decide) (by rw [HP.out]; rfl) HM.out, (Below.refl _ _).alloc (Nat.le_refl _) _⟩
  · rw [hr] at HR
    have hb : 0 ≤ r ∧ r ≤ 1114111 := by simp [rightR] at hr; omega
    have hp : putI r = putI0 r := by unfold putI; rw [hr]; rfl
    have HP := hid hp
    clear hr hp
    obtain ⟨hb0, hb1⟩ := hb
    by_cases h1 : r < 128
    · have HE := hid (HP.out.trans (show putI0 r = [r] from if_pos h1))
      go_enter Tryd.func17, Tryd.ntmps17
      go_wp2_with (go_at_call 25; refine (HR.out _).mono ?_; rintro e w' ⟨rfl, hw⟩; obtain rfl : w = w' := hw.symm)
      go_ret
      exact ⟨_, rfl, newB_of w _ _ _ _ (by rw [HE.out]; rfl) (by decide) (by rw [HE.out]; rfl) HM.out, (Below.refl _ _).alloc (Nat.le_refl _) _⟩
    · by_cases h2 : r < 2048
      · have HE := hid (HP.out.trans (show putI0 r = _ from (if_neg h1).trans (if_pos h2)))
        go_enter Tryd.func17, Tryd.ntmps17
        go_wp2_with (go_at_call 25; refine (HR.out _).mono ?_; rintro e w' ⟨rfl, hw⟩; obtain rfl : w = w' := hw.symm)
        go_ret
        exact ⟨_, rfl, newB_of w _ _ _ _ (by rw [HE.out]; rfl) (by decide) (by rw [HE.out]; rfl) HM.out, (Below.refl _ _).alloc (Nat.le_refl _) _⟩
      · by_cases h3 : r < 65536
        · have HE := hid (HP.out.trans (show putI0 r = _ from (if_neg h1).trans ((if_neg h2).trans (if_pos h3))))
          go_enter Tryd.func17, Tryd.ntmps17
          go_wp2_with (go_at_call 25; refine (HR.out _).mono ?_; rintro e w' ⟨rfl, hw⟩; obtain rfl : w = w' := hw.symm)
          go_ret
          exact ⟨_, rfl, newB_of w _ _ _ _ (by rw [HE.out]; rfl) (by decide) (by rw [HE.out]; rfl) HM.out, (Below.refl _ _).alloc (Nat.le_refl _) _⟩
        · have HE := hid (HP.out.trans (show putI0 r = _ from (if_neg h1).trans ((if_neg h2).trans (if_neg h3))))
          go_enter Tryd.func17, Tryd.ntmps17
          go_wp2_with (go_at_call 25; refine (HR.out _).mono ?_; rintro e w' ⟨rfl, hw⟩; obtain rfl : w = w' := hw.symm)
          go_ret
          exact ⟨_, rfl, newB_of w _ _ _ _ (by rw [HE.out]; rfl) (by decide) (by rw [HE.out]; rfl) HM.out, (Below.refl _ _).alloc (Nat.le_refl _) _⟩
end Go.Proofs.YtlopigkaibkblaaDoor
