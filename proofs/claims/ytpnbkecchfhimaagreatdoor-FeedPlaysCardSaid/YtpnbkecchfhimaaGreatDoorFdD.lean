/- Chapter 20: two slices of bytes as one: the walk. -/
import Derived.Test.YtpnbkecchfhimaaGreatDoorFdM2
import Derived.Test.YtpnbkecchfhimaaGreatDoorGrSh
import Derived.Laws.OwnMore
namespace Go.Proofs.YtpnbkecchfhimaaGreatDoor
open Go.RowKit Go.Shelf
open Go.Lib (hid)
set_option linter.unusedVariables false
set_option linter.unusedSimpArgs false
set_option maxRecDepth 100000

theorem grow_any (n : Nat) (hn : n ≤ 1000000) (w : World) :
    Calls Tryz.prog 57 #[.slice none 0 0, .int .i64 n] w fun e w' => ∃ v, e = .returned v ∧ w'.ownsRow w.heap.size 5 1 v 0 [] ∧ Below w.heap.size w w' := by
  obtain ⟨i0, hi, hz0, hz1, hz2⟩ := info_parts info_u8
  by_cases h0 : n = 0
  · subst h0
    refine (Any8.slices_Grow_room Tryz.laysGr none 0 0 0 w (Nat.le_refl _) (by decide) (by decide) (by decide)).mono ?_
    rintro e w' ⟨rfl, rfl⟩
    exact ⟨_, rfl, World.ownsRow_nil _ _ _ _, Below.refl _ _⟩
  · refine (Any8.slices_Grow_grow Tryz.laysGr i0 (.int .u8 0) hi hz0 (by rw [hz1]; decide) none 0 0 n [] w (Nat.le_refl _) (by omega) (by rw [hz2]; omega) (by omega) (by simp) (fun _ => rfl) (fun a h => by cases h)).mono ?_
    rintro e w' ⟨rfl, rfl⟩
    have hg := grownCap_ge w (0 + n) 0 5
    have hm := grownCap_le_maxLen w (0 + n) 0 5 (by unfold maxLen; omega)
    refine ⟨_, rfl, ⟨by simp, .inr ⟨w.heap.size, _, _, rfl, Nat.le_refl _, heap_alloc_new w.drew _, Nat.zero_le _, hm, ?_, by simp⟩⟩, (Below.refl w.heap.size w).drew.alloc (Nat.le_refl _) _⟩
    have hzc : ∀ k, (Builtin.zeroCells (Value.int .u8 0).cells k).size = k := fun k => by simp [Builtin.zeroCells, Value.cells]
    show (_ ++ _ ++ _ : Array Value).size = grownCap w (0 + n) 0 5 * 1
    rw [Array.size_append, Array.size_append, hzc, hzc]
    have hg2 : n ≤ grownCap w n 0 5 := grownCap_ge w n 0 _
    rw [Nat.zero_add, Nat.mul_one]
    show 0 + (n - 0) + (grownCap w n 0 5 - n) = grownCap w n 0 5
    omega
set_option maxHeartbeats 4000000 in
/-- Two slices of bytes, one behind the other. -/
theorem concat_any (A1 A2 : Option Addr) (n1 n2 c1 c2 q : Nat) (s1 s2 : ByteArray) (w : World) (h1 : BA w A1 n1 c1 s1) (h2 : BA w A2 n2 c2 s2) (hq : Blk w q 22 #[.slice A1 n1 c1, .slice A2 n2 c2]) (hm1 : n1 ≤ 400000) (hm2 : n2 ≤ 400000) :
    Calls Tryz.prog 33 #[.slice (some ⟨q, 0, none⟩) 2 2] w fun e w' => ∃ v, e = .returned v ∧ w'.ownsRow w.heap.size 5 1 v (s1 ++ s2).size (u8s (s1 ++ s2)) ∧ Below w.heap.size w w' := by
  obtain ⟨i0, hi, hz0, hz1, hz2⟩ := info_parts info_u8
  have x0 := hq.cell 0
  have x1 := hq.cell 1
  simp only [List.getElem?_toArray, List.getElem?_cons_zero, List.getElem?_cons_succ] at x0 x1
  have HG := hid (fun W => grow_any (n1 + n2) (by omega) W)
  have H1 := hid h1
  have H2 := hid h2
  have HQL := hid hq.lt
  have HN1 := hid h1.1
  have HN2 := hid h2.1
  have a1 : (n1 : Int) + (n2 : Int) = ((n1 + n2 : Nat) : Int) := by omega
  have a2 : ((n1 + n2 : Nat) : Int) ≤ 1000000 := by omega
  have HM := hid (show n1 + n2 ≤ 1000000 by omega)
  generalize n1 + n2 = m at *
  clear h1 h2 hq
  go_enter Tryz.func33, Tryz.ntmps33
  go_wp2_with fail
  go_loopg [3, 11] 2 (fun kx s3 s11 wr => ∃ (i : Nat) (z : Int), s3 = .int .i64 z ∧ s11 = .int .i64 i ∧ i ≤ 2 ∧ 2 - i ≤ kx ∧ wr = w ∧ Hid ((i = 0 ∧ z = 0) ∨ (i = 1 ∧ z = n1) ∨ (i = 2 ∧ z = m)))
  case atStart => exact ⟨0, 0, rfl, rfl, by decide, Nat.le_refl _, rfl, .inl ⟨rfl, rfl⟩⟩
  case round =>
    obtain ⟨i, z, rfl, rfl, hi2, hg, hw, HZ⟩ := hrel
    obtain rfl : w = wr := hw.symm
    rcases HZ.out with ⟨rfl, rfl⟩ | ⟨rfl, rfl⟩ | ⟨rfl, rfl⟩
    · have hn0 : ¬ (n1 : Int) < 0 := by omega
      go_wp2_with fail
      go_roundg 1
      case measure => omega
      case rel => exact ⟨1, n1, by simp, rfl, by decide, Nat.le_refl _, rfl, .inr (.inl ⟨rfl, rfl⟩)⟩
    · have hn0 : ¬ (m : Int) < 0 := by omega
      go_wp2_with fail
      go_roundg 0
      case measure => omega
      case rel => exact ⟨2, m, by simp, rfl, by decide, Nat.le_refl _, rfl, .inr (.inr ⟨rfl, rfl⟩)⟩
    · go_wp2_with fail
      refine (HG.out _).mono ?_
      rintro e w2 ⟨v, rfl, hr2, hb2⟩
      have HR2 := hid hr2
      have HB2 := hid hb2
      clear hr2 hb2
      go_wp2_with fail
      go_loopg [6, 27] 2 (fun kx s6 s27 wr => ∃ (i : Nat) (v : Value) (t : ByteArray), s6 = v ∧ s27 = .int .i64 i ∧ i ≤ 2 ∧ 2 - i ≤ kx ∧ Hid (wr.ownsRow w.heap.size 5 1 v t.size (u8s t)) ∧ Hid (Below w.heap.size w wr) ∧ Hid ((i = 0 ∧ t = ⟨#[]⟩) ∨ (i = 1 ∧ t = s1) ∨ (i = 2 ∧ t = s1 ++ s2)))
      case atStart => exact ⟨0, _, ⟨#[]⟩, rfl, rfl, by decide, Nat.le_refl _, HR2.out, HB2.out, .inl ⟨rfl, rfl⟩⟩
      case round =>
        obtain ⟨i, v, t, rfl, rfl, hi3, hg3, HROW, HB, HT⟩ := hrel
        have hszr := HB.out.size
        have hx0 := (HB.out.cell (p := ⟨q, 0, none⟩) HQL.out).trans x0
        have hx1 := (HB.out.cell (p := ⟨q, 1, none⟩) HQL.out).trans x1
        have HRD1 := hid (H1.out.below HB.out (Nat.le_refl _)).reads
        have HRD2 := hid (H2.out.below HB.out (Nat.le_refl _)).reads
        obtain ⟨A0, c0, rfl⟩ := owns_slice HROW.out
        rcases HT.out with ⟨rfl, rfl⟩ | ⟨rfl, rfl⟩ | ⟨rfl, rfl⟩
        · go_wp2_with (at_builtin; go_must (refine wpList_append_any _ rfl (.tmp 31) (.tmp 32) 22 rfl w.heap.size 5 i0 (.int .u8 0) 1 1 Tryz.underlying22 hi hz0 hz1 hz2 rfl (by decide) _ 0 [] rfl HROW.out _ A1 n1 c1 (u8s s1) rfl HRD1.out (u8s_one _) (by unfold maxLen; omega) (by omega) (by omega) ?_); intro v6 w6 hown6 hgrow6 _)
          have HB6 := hid (HB.out.grown hgrow6 hszr (fun k e => (HROW.out.lt k e).1))
          go_roundg 1
          case measure => omega
          case rel => exact ⟨1, v6, s1, rfl, rfl, by decide, Nat.le_refl _, by
            show World.ownsRow _ _ _ _ _ _ _
            have h := hown6
            rw [Nat.zero_add, List.nil_append, HN1.out] at h
            exact h, HB6.out, .inr (.inl ⟨rfl, rfl⟩)⟩
        · go_wp2_with (at_builtin; go_must (refine wpList_append_any _ rfl (.tmp 31) (.tmp 32) 22 rfl w.heap.size 5 i0 (.int .u8 0) 1 1 Tryz.underlying22 hi hz0 hz1 hz2 rfl (by decide) _ t.size (u8s t) rfl HROW.out _ A2 n2 c2 (u8s s2) rfl HRD2.out (u8s_one _) (by have := HN1.out; unfold maxLen; omega) (by have := HN1.out; omega) (by omega) ?_); intro v6 w6 hown6 hgrow6 _)
          have HB6 := hid (HB.out.grown hgrow6 hszr (fun k e => (HROW.out.lt k e).1))
          go_roundg 0
          case measure => omega
          case rel => exact ⟨2, v6, _, rfl, rfl, by decide, Nat.le_refl _, by
            show World.ownsRow _ _ _ _ _ _ _
            rw [ByteArray.size_append, u8s_append, ← HN2.out]
            exact hown6, HB6.out, .inr (.inr ⟨rfl, rfl⟩)⟩
        · go_wp2_with fail
          go_ret
          refine ⟨.slice A0 (s1.size + s2.size) c0, rfl, ?_, HB.out⟩
          have h := HROW.out
          rw [ByteArray.size_append] at h
          exact h
end Go.Proofs.YtpnbkecchfhimaaGreatDoor
