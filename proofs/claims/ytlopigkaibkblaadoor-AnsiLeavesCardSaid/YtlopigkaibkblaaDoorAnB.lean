/- Chapter 17: the escape at a place: the walks. -/
import Derived.Test.YtlopigkaibkblaaDoorAnA
import Derived.BigRegion
import Derived.Deep.DeepCutAuto
namespace Go.Proofs.YtlopigkaibkblaaDoor
open Go.RowKit
open Go.Lib (hid)
set_option linter.unusedVariables false

theorem results_row_tmp2 {P : Program} {fn : Func} {p u v : Tmp} {ty : TypeId} (h : fn.results = #[.cell p ty, .tmp u, .tmp v]) (tmps : Array Value) (w : World) (g : Nat) (t : TypeId) (cs : Array Value) (fr : Nat × Nat) (d : TypeDesc)
    (hp : tmps.getD p undef = .pointer (some ⟨g, 0, none⟩)) (hg : w.heap[g]? = some (.cells cs t fr))
    (hu : P.underlying ty = some d) (hd : (match d with | .struct _ | .array _ _ => true | _ => false) = true) (hi : (P.info? ty).map (·.size) = some cs.size) :
    (results fn tmps).run P w = .ok (.tuple #[.agg cs, tmps.getD u undef, tmps.getD v undef]) w := by
  have hp' : tmps[p]?.getD undef = .pointer (some ⟨g, 0, none⟩) := by simpa using hp
  simp [results, h, hp', asAddr, run_loadVar_row w g t ty cs fr d hg hu hd hi]

def set4 (w : World) (r : Nat) (e : Es) : World :=
  (((w.setCell ⟨r, 0, none⟩ (.int .i64 e.size)).setCell ⟨r, 1, none⟩ (.bool e.whole)).setCell ⟨r, 2, none⟩ (.bool e.open_)).setCell ⟨r, 3, none⟩ (.int .u8 e.last)
theorem set4_blk {w : World} {r : Nat} {e : Es} (h : Blk w r 25 es0c) : Blk (set4 w r e) r 25 #[.int .i64 e.size, .bool e.whole, .bool e.open_, .int .u8 e.last] := by
  have := (((h.set_ 0 (.int .i64 e.size)).set_ 1 (.bool e.whole)).set_ 2 (.bool e.open_)).set_ 3 (.int .u8 e.last)
  show Blk _ _ _ _
  unfold set4
  simpa [es0c] using this
theorem set4_below {w w0 : World} {B r : Nat} {e : Es} (hB : B ≤ r) (h : Below B w0 w) : Below B w0 (set4 w r e) :=
  (((h.setCell (p := ⟨r, 0, none⟩) hB (.int .i64 e.size)).setCell (p := ⟨r, 1, none⟩) hB (.bool e.whole)).setCell (p := ⟨r, 2, none⟩) hB (.bool e.open_)).setCell (p := ⟨r, 3, none⟩) hB (.int .u8 e.last)

set_option maxRecDepth 100000 in
set_option maxHeartbeats 4000000 in
theorem sequence_any (b off n cap : Nat) (t : ByteArray) (hn : n = t.size) (h2 : 2 ≤ n) (hcap : n ≤ cap) (hc63 : cap ≤ 9223372036854775807) (hm : n ≤ 1048576) (w : World) (hbl : b < w.heap.size) (hz : Lib.Bytes w b off t) :
    Calls Tryd.prog 19 #[.slice (some ⟨b, off, none⟩) n cap] w fun e w' => e = .returned (.tuple #[(seqE t).val, .int .i64 (seqK t), .int .i64 (seqN t)]) ∧ Below w.heap.size w w' := by
  have hk1 := passTo_le (amongB 48 63) t (i := 2) (by omega)
  have hn1 := passTo_le (amongB 32 47) t hk1
  have hdef : seqE t = if passTo (amongB 32 47) t (passTo (amongB 48 63) t 2) < t.size ∧ amongB 64 126 (byt t (passTo (amongB 32 47) t (passTo (amongB 48 63) t 2))) = true then ⟨passTo (amongB 32 47) t (passTo (amongB 48 63) t 2) + 1, true, false, byt t (passTo (amongB 32 47) t (passTo (amongB 48 63) t 2))⟩ else ⟨passTo (amongB 32 47) t (passTo (amongB 48 63) t 2), false, passTo (amongB 32 47) t (passTo (amongB 48 63) t 2) == t.size, 0⟩ := rfl
  have hb1 := (Below.refl w.heap.size w).alloc (Nat.le_refl _) (.cells es0c 25)
  have hr1 := Blk.new w 25 es0c
  have hz1 : Lib.Bytes (w.alloc (.cells es0c 25)) b off t := Bytes.keepAt hz fun k => World.cell?_of_block (hb1.block b hbl)
  have hrun := fun (i : Nat) (lo hi : Int) (h : i ≤ n) => run_any b off n cap i lo hi t hn h hcap hc63 _ hz1
  show Calls Tryd.prog 19 #[.slice (some ⟨b, off, none⟩) n cap] w fun e w' => e = .returned (.tuple #[(seqE t).val, .int .i64 (passTo (amongB 48 63) t 2 : Nat), .int .i64 (passTo (amongB 32 47) t (passTo (amongB 48 63) t 2) : Nat)]) ∧ Below w.heap.size w w'
  have hr1' := hrun 2 48 63 (by omega)
  have hr2' := hrun (passTo (amongB 48 63) t 2) 32 47 (by omega)
  generalize passTo (amongB 32 47) t (passTo (amongB 48 63) t 2) = N at *
  generalize passTo (amongB 48 63) t 2 = K at *
  have HRUN1 := hid hr1'
  have HRUN2 := hid hr2'
  have HDEF := hid hdef
  have HZ1 := hid hz1
  have HN := hid hn
  have r0 := hr1.cell 0
  have r1 := hr1.cell 1
  have r2 := hr1.cell 2
  have r3 := hr1.cell 3
  have frr := hr1.frozen
  simp only [es0c, List.getElem?_toArray, List.getElem?_cons_zero, List.getElem?_cons_succ] at r0 r1 r2 r3 frr
  have HR1 := hid hr1
  have HB1 := hid hb1
  have hnl : N ≤ n := by omega
  have hN1 : (N : Int) + 1 ≤ 9223372036854775807 := by omega
  clear hdef hr1 hb1 hz1 hz hrun hr1' hr2' hn hk1 hn1
  simp only [es0c] at HRUN1 HRUN2 HZ1 HR1 HB1
  go_enter Tryd.func19, Tryd.ntmps19
  go_upto_region 1 with fail
  generalize w.alloc (.cells #[.int .i64 0, .bool false, .bool false, .int .u8 0] 25) = w1 at *
  go_wp2_with fail
  refine HRUN1.out.mono ?_
  rintro e w2 ⟨rfl, hw⟩
  obtain rfl : w1 = w2 := hw.symm
  go_wp2_with fail
  refine HRUN2.out.mono ?_
  rintro e w2 ⟨rfl, hw⟩
  obtain rfl : w1 = w2 := hw.symm
  by_cases hlt : N < n
  · have hlt' : (N : Int) < (n : Int) := by omega
    have hcell := bytes_cell HZ1.out (i := N) (by have := HN.out; omega)
    have ham := fun W => among_any (byt t N) 64 126 W
    have hd := HDEF.out
    generalize byt t N = c at *
    cases hp : amongB 64 126 c
    · rw [hp] at ham
      have HAM := hid ham
      have HE : Hid (seqE t = ⟨N, false, false, 0⟩) := by
        show _ = _
        rw [hd, if_neg (fun h => by rw [hp] at h; exact absurd h.2 (by decide)), show (N == t.size) = false by have := HN.out; simp; omega]
      have hne : ¬ (N : Int) = (n : Int) := by omega
      have hneb : ((N : Int) == (n : Int)) = false := by simpa using hne
      have HF := hid (set4_blk (e := ⟨N, false, false, 0⟩) HR1.out)
      have HBF := hid (set4_below (e := ⟨N, false, false, 0⟩) (Nat.le_refl w.heap.size) HB1.out)
      clear ham hd hp HDEF
      go_wp2_with fail
      refine (HAM.out _).mono ?_
      rintro e w2 ⟨rfl, hw⟩
      obtain rfl : w1 = w2 := hw.symm
      go_wp2_with fail
      (try simp only [Exit.inBlock, Exit.then])
      rw [HE.out]
      exact bodyPost_ret (results_row_tmp2 rfl _ _ w.heap.size _ _ _ _ rfl HF.out Tryd.underlying25 rfl (by kernel_rfl)) rfl ⟨rfl, HBF.out⟩
    · rw [hp] at ham
      have HAM := hid ham
      have HE : Hid (seqE t = ⟨N + 1, true, false, c⟩) := by
        show _ = _
        rw [hd, if_pos ⟨by have := HN.out; omega, hp⟩]
      have HF := hid (set4_blk (e := ⟨N + 1, true, false, c⟩) HR1.out)
      have HBF := hid (set4_below (e := ⟨N + 1, true, false, c⟩) (Nat.le_refl w.heap.size) HB1.out)
      clear ham hd hp HDEF
      go_wp2_with fail
      refine (HAM.out _).mono ?_
      rintro e w2 ⟨rfl, hw⟩
      obtain rfl : w1 = w2 := hw.symm
      go_wp2_with fail
      (try simp only [Exit.inBlock, Exit.then])
      rw [HE.out]
      exact bodyPost_ret (results_row_tmp2 rfl _ _ w.heap.size _ _ _ _ rfl HF.out Tryd.underlying25 rfl (by kernel_rfl)) rfl ⟨rfl, HBF.out⟩
  · obtain rfl : N = n := by omega
    have hlt' : ¬ (N : Int) < (N : Int) := by omega
    have HE : Hid (seqE t = ⟨N, false, true, 0⟩) := by
      show _ = _
      rw [HDEF.out, if_neg (fun h => by have := HN.out; omega), show (N == t.size) = true by have := HN.out; simp; omega]
    have HF := hid (set4_blk (e := ⟨N, false, true, 0⟩) HR1.out)
    have HBF := hid (set4_below (e := ⟨N, false, true, 0⟩) (Nat.le_refl w.heap.size) HB1.out)
    clear HDEF
    go_wp2_with fail
    (try simp only [Exit.inBlock, Exit.then])
    rw [HE.out]
    exact bodyPost_ret (results_row_tmp2 rfl _ _ w.heap.size _ _ _ _ rfl HF.out Tryd.underlying25 rfl (by kernel_rfl)) rfl ⟨rfl, HBF.out⟩
end Go.Proofs.YtlopigkaibkblaaDoor
