/- Chapter 18: the document's marks that go up to some bytes. -/
import Derived.Test.YtpkbmgpbagdalaaTagU2
import Derived.Deep.LoopGhost
namespace Go.Proofs.Ytpkbmgpbagdalaa
open Go.RowKit
open Go.Lib (hid)
set_option linter.unusedVariables false

theorem upAt_end (s e : ByteArray) (i : Nat) (h : ¬ i + e.size ≤ s.size) : upAt s e i = none := by
  unfold upAt
  cases hf : s.size + 1 - i with
  | zero => rfl
  | succ f => unfold upGo; rw [if_neg h]
theorem upAt_hit (s e : ByteArray) (i : Nat) (h : i + e.size ≤ s.size) (ho : occ s e i = true) : upAt s e i = some (i + e.size) := by
  unfold upAt
  rw [show s.size + 1 - i = (s.size - i) + 1 by omega]
  unfold upGo
  rw [if_pos h, if_pos ho]
theorem upAt_next (s e : ByteArray) (i : Nat) (h : i + e.size ≤ s.size) (ho : occ s e i = false) : upAt s e i = upAt s e (i + 1) := by
  unfold upAt
  rw [show s.size + 1 - i = (s.size + 1 - (i + 1)) + 1 by omega]
  rw [upGo, if_pos h, if_neg (by rw [ho]; decide)]

set_option maxRecDepth 100000 in
set_option maxHeartbeats 4000000 in
theorem refUpTo_any (b off n cap fr : Nat) (kd : Int) (e s : ByteArray) (hn : n = s.size) (hi : fr ≤ n) (hcap : n ≤ cap) (hc63 : cap ≤ 9223372036854775807) (he : 0 < e.size) (he2 : e.size ≤ 1000)
    (hm : n ≤ 1048576) (w : World) (hbB : b < w.heap.size) (hz : Lib.Bytes w b off s) :
    Calls Try.prog 21 #[.slice (some ⟨b, off, none⟩) n cap, .int .i64 fr, .int .i64 kd, .string e] w fun x w' =>
      x = .returned ((upToV s fr kd e).val (.slice none 0 0)) ∧ Below w.heap.size w w' := by
  have HZ := hid hz
  have HN := hid hn
  clear hz hn
  go_enter Try.func21, Try.ntmps21
  go_wp2_with fail
  have hb0 := (Below.refl w.heap.size w).alloc (Nat.le_refl _) (.cells tag0 31)
  have hr0 := Blk.new w 31 tag0
  simp only [tag0] at hb0 hr0
  generalize w.alloc (.cells #[.int .i64 0, .int .i64 0, .string ⟨#[]⟩, .slice none 0 0, .bool false, .bool false] 31) = w1 at *
  have r0 := hr0.cell 0
  have r1 := hr0.cell 1
  have r2 := hr0.cell 2
  have r3 := hr0.cell 3
  have r4 := hr0.cell 4
  have r5 := hr0.cell 5
  have frr := hr0.frozen
  simp only [List.getElem?_toArray, List.getElem?_cons_zero, List.getElem?_cons_succ] at r0 r1 r2 r3 r4 r5
  have hz1 : Lib.Bytes w1 b off s := Bytes.keepAt HZ.out fun j => World.cell?_of_block (hb0.block b hbB)
  have hfin := fun (z : Nat) (cl : Bool) => ((((((hr0).set_ 0 (.int .i64 kd)).set_ 1 (.int .i64 z)).set_ 2 (.string ⟨#[]⟩)).set_ 3 (.slice none 0 0)).set_ 4 (.bool false)).set_ 5 (.bool cl)
  have hbf := fun (z : Nat) (cl : Bool) => ((((((hb0).setCell (p := ⟨w.heap.size, 0, none⟩) (Nat.le_refl _) (.int .i64 kd)).setCell (p := ⟨w.heap.size, 1, none⟩) (Nat.le_refl _) (.int .i64 z)).setCell (p := ⟨w.heap.size, 2, none⟩) (Nat.le_refl _) (.string ⟨#[]⟩)).setCell (p := ⟨w.heap.size, 3, none⟩) (Nat.le_refl _) (.slice none 0 0)).setCell (p := ⟨w.heap.size, 4, none⟩) (Nat.le_refl _) (.bool false)).setCell (p := ⟨w.heap.size, 5, none⟩) (Nat.le_refl _) (.bool cl)
  have HFIN := hid hfin
  have HBF := hid hbf
  have HZ1 := hid hz1
  clear hb0 hr0 hz1 hfin hbf
  go_loopg [9] n (fun kx s9 wr => ∃ (i : Nat), s9 = .int .i64 i ∧ i ≤ n + 1 ∧ n + 1 - i ≤ kx + 1 ∧ wr = w1 ∧ Hid (upAt s e fr = upAt s e i))
  case atStart => exact ⟨fr, rfl, by omega, by omega, rfl, rfl⟩
  case round =>
    obtain ⟨i, rfl, hin, hg, hw, HU⟩ := hrel
    obtain rfl : w1 = wr := hw.symm
    have hi1 : (i : Int) + (e.size : Int) ≤ 9223372036854775807 := by omega
    have hi2 : (i : Int) + 1 ≤ 9223372036854775807 := by omega
    by_cases hlt : i + e.size ≤ n
    · have hlt' : (i : Int) + (e.size : Int) ≤ (n : Int) := by omega
      have his : i + e.size ≤ s.size := by have := HN.out; omega
      have hsl : ∀ W, (Instr.slice 22 (.slice (some ⟨b, off, none⟩) n cap) (some (.int .i64 i)) (some (.int .i64 ((i : Int) + (e.size : Int)))) none).run Try.prog W = .ok (.slice (some ⟨b, off + i, none⟩) e.size (cap - i)) W := fun W => by
        have := slice_row b off n cap i (i + e.size) (by omega) (by omega) (by omega) W
        rw [show i + e.size - i = e.size by omega] at this
        simpa using this
      have hcv : (convert 22 9 (.slice (some ⟨b, off + i, none⟩) e.size (cap - i))).run Try.prog w1 = .ok (.string (s.extract i (i + e.size))) w1 :=
        Lib.run_convert_window (P := Try.prog) w1 22 5 9 Try.underlying22 Try.underlying5 Try.underlying9 b off s HZ1.out i e.size (cap - i) his
      have hoc : ((s.extract i (i + e.size)).toList == e.toList) = occ s e i := rfl
      generalize s.extract i (i + e.size) = x at *
      cases ho : occ s e i
      · rw [ho] at hoc
        have HU2 := hid (HU.out.trans (upAt_next s e i his ho))
        clear ho
        go_wp2_with fail
        go_roundg (n - (i + 1))
        case measure => omega
        case rel => exact ⟨i + 1, rfl, by omega, by omega, rfl, HU2⟩
      · rw [ho] at hoc
        have HE : Hid (upToV s fr kd e = ⟨kd, i + e.size, ⟨#[]⟩, [], false, true⟩) := by show _ = _; unfold upToV; rw [HU.out, upAt_hit s e i his ho]
        clear ho
        go_wp2_with fail
        (try simp only [Exit.inBlock, Exit.then])
        rw [HE.out]
        have hf := HFIN.out (i + e.size) true
        simp only [List.setIfInBounds_toArray, List.set] at hf
        have hbb := HBF.out (i + e.size) true
        simp only [Int.natCast_add] at hf hbb
        exact bodyPost_ret (v := .agg #[.int .i64 kd, .int .i64 ((i : Int) + (e.size : Int)), .string ⟨#[]⟩, .slice none 0 0, .bool false, .bool true]) (results_cell_row rfl _ _ w.heap.size _ _ _ _ rfl hf Try.underlying31 rfl (by kernel_rfl)) rfl ⟨by unfold Mk.val; simp, hbb⟩
    · have hlt' : ¬ (i : Int) + (e.size : Int) ≤ (n : Int) := by omega
      have HE : Hid (upToV s fr kd e = ⟨kd, n, ⟨#[]⟩, [], false, false⟩) := by show _ = _; unfold upToV; rw [HU.out, upAt_end s e i (by have := HN.out; omega), HN.out]
      go_wp2_with fail
      (try simp only [Exit.inBlock, Exit.then])
      rw [HE.out]
      have hf := HFIN.out n false
      simp only [List.setIfInBounds_toArray, List.set] at hf
      exact bodyPost_ret (v := .agg #[.int .i64 kd, .int .i64 n, .string ⟨#[]⟩, .slice none 0 0, .bool false, .bool false]) (results_cell_row rfl _ _ w.heap.size _ _ _ _ rfl hf Try.underlying31 rfl (by kernel_rfl)) rfl ⟨rfl, HBF.out n false⟩
end Go.Proofs.Ytpkbmgpbagdalaa
