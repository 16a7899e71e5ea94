/- Chapter 17: the document's escape: the walk. -/
import Derived.Test.YtlopigkaibkblaaDoorAnC
import Derived.Test.YtlopigkaibkblaaDoorAnG
namespace Go.Proofs.YtlopigkaibkblaaDoor
open Go.RowKit
open Go.Lib (hid)
set_option linter.unusedVariables false

theorem set4_blkT {T : TypeId} {w : World} {r : Nat} {e : Es} (h : Blk w r T es0c) : Blk (set4 w r e) r T #[.int .i64 e.size, .bool e.whole, .bool e.open_, .int .u8 e.last] := by
  have := (((h.set_ 0 (.int .i64 e.size)).set_ 1 (.bool e.whole)).set_ 2 (.bool e.open_)).set_ 3 (.int .u8 e.last)
  show Blk _ _ _ _
  unfold set4
  simpa [es0c] using this
/-- The document's state at the byte j of an escape. -/
def RS (t : ByteArray) (st j : Nat) : Prop :=
  (st = 0 ∧ j = 1) ∨ (st = 1 ∧ byt t 1 = 91 ∧ 2 ≤ j ∧ seqK t = passTo (amongB 48 63) t j) ∨ (st = 2 ∧ byt t 1 = 91 ∧ 2 ≤ j ∧ seqN t = passTo (amongB 32 47) t j)
theorem amT {lo hi c : Int} (h1 : lo ≤ c) (h2 : c ≤ hi) : amongB lo hi c = true := decide_eq_true ⟨h1, h2⟩
theorem amF {lo hi c : Int} (h : ¬ (lo ≤ c ∧ c ≤ hi)) : amongB lo hi c = false := decide_eq_false h
theorem head_seq {t : ByteArray} (h1 : ¬ t.size = 1) (h91 : byt t 1 = 91) : headE t = seqE t := by unfold headE; rw [if_neg h1, if_pos h91]
theorem rs_start {t : ByteArray} : RS t 0 1 := .inl ⟨rfl, rfl⟩
theorem rs_open {t : ByteArray} (h : byt t 1 = 91) : RS t 1 2 := .inr (.inl ⟨rfl, h, Nat.le_refl _, rfl⟩)
theorem rs_par {t : ByteArray} {j : Nat} (h : RS t 1 j) (hj : j < t.size) (hc : amongB 48 63 (byt t j) = true) : RS t 1 (j + 1) := by
  rcases h with ⟨h, _⟩ | ⟨_, h1, h2, h3⟩ | ⟨h, _⟩
  · cases h
  · exact .inr (.inl ⟨rfl, h1, by omega, h3.trans (passTo_step hj hc)⟩)
  · cases h
theorem rs_k {t : ByteArray} {j : Nat} (h : RS t 1 j) (hj : j < t.size) (hc : amongB 48 63 (byt t j) = false) : byt t 1 = 91 ∧ 2 ≤ j ∧ seqN t = passTo (amongB 32 47) t j := by
  rcases h with ⟨h, _⟩ | ⟨_, h1, h2, h3⟩ | ⟨h, _⟩
  · cases h
  · refine ⟨h1, h2, ?_⟩
    show passTo (amongB 32 47) t (seqK t) = _
    rw [h3, passTo_stop hj hc]
  · cases h
theorem rs_two {t : ByteArray} {j : Nat} (h : RS t 2 j) : byt t 1 = 91 ∧ 2 ≤ j ∧ seqN t = passTo (amongB 32 47) t j := by
  rcases h with ⟨h, _⟩ | ⟨h, _⟩ | ⟨_, h⟩
  · cases h
  · cases h
  · exact h
theorem rs_oth {t : ByteArray} {j : Nat} (h : byt t 1 = 91 ∧ 2 ≤ j ∧ seqN t = passTo (amongB 32 47) t j) (hj : j < t.size) (hc : amongB 32 47 (byt t j) = true) : RS t 2 (j + 1) :=
  .inr (.inr ⟨rfl, h.1, by omega, h.2.2.trans (passTo_step hj hc)⟩)
theorem rs_whole {t : ByteArray} {j : Nat} (h : byt t 1 = 91 ∧ 2 ≤ j ∧ seqN t = passTo (amongB 32 47) t j) (hj : j < t.size) (hc : amongB 32 47 (byt t j) = false) (hw : amongB 64 126 (byt t j) = true) : headE t = ⟨j + 1, true, false, byt t j⟩ := by
  have hn : seqN t = j := h.2.2.trans (passTo_stop hj hc)
  rw [head_seq (by omega) h.1]
  unfold seqE
  rw [hn, if_pos ⟨hj, hw⟩]
theorem rs_broken {t : ByteArray} {j : Nat} (h : byt t 1 = 91 ∧ 2 ≤ j ∧ seqN t = passTo (amongB 32 47) t j) (hj : j < t.size) (hc : amongB 32 47 (byt t j) = false) (hw : amongB 64 126 (byt t j) = false) : headE t = ⟨j, false, false, 0⟩ := by
  have hn : seqN t = j := h.2.2.trans (passTo_stop hj hc)
  rw [head_seq (by omega) h.1]
  unfold seqE
  rw [hn, if_neg (fun h => by rw [hw] at h; exact absurd h.2 (by decide)), show (j == t.size) = false by simp; omega]
theorem rs_end {t : ByteArray} {st j : Nat} (h : RS t st j) (hj : j = t.size) : headE t = ⟨t.size, false, true, 0⟩ := by
  rcases h with ⟨_, h⟩ | ⟨_, h1, h2, h3⟩ | ⟨_, h1, h2, h3⟩
  · unfold headE
    rw [if_pos (by omega)]
    rw [show t.size = 1 by omega]
  · have hk : seqK t = t.size := by rw [h3, passTo_end (by omega)]; exact hj
    have hn : seqN t = t.size := by
      show passTo (amongB 32 47) t (seqK t) = _
      rw [hk, passTo_end (Nat.le_refl _)]
    rw [head_seq (by omega) h1]
    unfold seqE
    rw [hn, if_neg (fun h => Nat.lt_irrefl _ h.1)]
    simp
  · have hn : seqN t = t.size := by rw [h3, passTo_end (by omega)]; exact hj
    rw [head_seq (by omega) h1]
    unfold seqE
    rw [hn, if_neg (fun h => Nat.lt_irrefl _ h.1)]
    simp
theorem rs_two0 {t : ByteArray} (h1 : ¬ t.size = 1) (h91 : ¬ byt t 1 = 91) (ha : amongB 64 95 (byt t 1) = true) : headE t = ⟨2, true, false, byt t 1⟩ := by unfold headE; rw [if_neg h1, if_neg h91, if_pos ha]
theorem rs_one0 {t : ByteArray} (h1 : ¬ t.size = 1) (h91 : ¬ byt t 1 = 91) (ha : amongB 64 95 (byt t 1) = false) : headE t = ⟨1, false, false, 0⟩ := by unfold headE; rw [if_neg h1, if_neg h91, if_neg (by rw [ha]; decide)]

set_option maxRecDepth 100000 in
set_option maxHeartbeats 8000000 in
theorem refread_any (a : Option Addr) (n cap : Nat) (i : Int) (s : ByteArray) (w : World) (hb : BA w a n cap s) (hm : n ≤ 1048576) (hi63 : i ≤ 9223372036854775807) :
    Calls Tryd.prog 10 #[.slice a n cap, .int .i64 i] w fun e w' => e = .returned (readE s i).val ∧ Below w.heap.size w w' := by
  have hb1 := (Below.refl w.heap.size w).alloc (Nat.le_refl _) (.cells es0c 27)
  have hr1 := Blk.new w 27 es0c
  have r0 := hr1.cell 0
  have r1 := hr1.cell 1
  have r2 := hr1.cell 2
  have r3 := hr1.cell 3
  have frr := hr1.frozen
  simp only [es0c, List.getElem?_toArray, List.getElem?_cons_zero, List.getElem?_cons_succ] at r0 r1 r2 r3 frr
  have hF0 := set4_blkT (e := es0) hr1
  have hBF0 := set4_below (e := es0) (Nat.le_refl w.heap.size) hb1
  have HR1 := hid hr1
  have HB1 := hid hb1
  have HF0 := hid hF0
  have HBF0 := hid hBF0
  have HBA := hid hb
  simp only [es0c] at HR1 HB1 HF0 HBF0
  clear hr1 hb1 hF0 hBF0 hb
  by_cases h0 : i < 0
  · have HE := hid (show readE s i = es0 by unfold readE; exact if_neg fun h => by omega)
    clear HBA
    go_enter Tryd.func10, Tryd.ntmps10
    go_upto_region 1 with fail
    generalize w.alloc (.cells #[.int .i64 0, .bool false, .bool false, .int .u8 0] 27) = w1 at *
    go_wp2_with fail
    (try simp only [Exit.inBlock, Exit.then])
    rw [HE.out]
    exact bodyPost_ret (results_cell_row rfl _ _ w.heap.size _ _ _ _ rfl HF0.out Tryd.underlying27 rfl (by kernel_rfl)) rfl ⟨rfl, HBF0.out⟩
  obtain ⟨k, rfl⟩ : ∃ k : Nat, i = k := ⟨i.toNat, by omega⟩
  by_cases hkn : n ≤ k
  · have hkn' : (n : Int) ≤ (k : Int) := by omega
    have HE := hid (show readE s k = es0 by unfold readE; exact if_neg fun h => by have := HBA.out.1; omega)
    clear HBA
    go_enter Tryd.func10, Tryd.ntmps10
    go_upto_region 1 with fail
    generalize w.alloc (.cells #[.int .i64 0, .bool false, .bool false, .int .u8 0] 27) = w1 at *
    go_wp2_with fail
    (try simp only [Exit.inBlock, Exit.then])
    rw [HE.out]
    exact bodyPost_ret (results_cell_row rfl _ _ w.heap.size _ _ _ _ rfl HF0.out Tryd.underlying27 rfl (by kernel_rfl)) rfl ⟨rfl, HBF0.out⟩
  have hkn' : ¬ (n : Int) ≤ (k : Int) := by omega
  have hkl : (k : Int) < (n : Int) := by omega
  obtain ⟨b, off, rfl, hbl, hz⟩ := HBA.out.2.2.2 (by omega)
  have hns := HBA.out.1
  have hz1 := fun j (hj : j < s.size) => (HB1.out.cell (p := ⟨b, _, none⟩) hbl).trans (bytes_cell hz hj)
  have hc0 := hz1 k (by omega)
  by_cases h27n : ¬ byt s k = 27
  · have h27 := h27n
    have b27 : (byt s k != 27) = true := by simpa using h27
    have HE := hid (show readE s k = es0 by unfold readE; exact if_neg fun h => h27 h.2.2)
    clear h27n
    generalize byt s k = c at *
    clear HBA hz hz1 hns
    go_enter Tryd.func10, Tryd.ntmps10
    go_upto_region 1 with fail
    generalize w.alloc (.cells #[.int .i64 0, .bool false, .bool false, .int .u8 0] 27) = w1 at *
    go_wp2_with fail
    (try simp only [Exit.inBlock, Exit.then])
    rw [HE.out]
    exact bodyPost_ret (results_cell_row rfl _ _ w.heap.size _ _ _ _ rfl HF0.out Tryd.underlying27 rfl (by kernel_rfl)) rfl ⟨rfl, HBF0.out⟩
  have h27 : byt s k = 27 := Classical.not_not.1 h27n
  rw [h27] at hc0
  clear h27n
  have hdef : readE s k = headE (s.extract k s.size) := by
    unfold readE
    rw [if_pos ⟨by omega, by omega, h27⟩]
    rfl
  have hbt : ∀ j, k + j < s.size → byt (s.extract k s.size) j = byt s (k + j) := fun j hj => byt_extract s k s.size j (by omega) (Nat.le_refl _)
  have hts : n - k = (s.extract k s.size).size := by rw [ByteArray.size_extract]; omega
  generalize s.extract k s.size = t at *
  have HDEF := hid hdef
  have HBT := hid hbt
  have HTS := hid hts
  have HZ := hid hz1
  have HNS := hid hns
  have hk1 : (k : Int) + 1 ≤ 9223372036854775807 := by omega
  clear hdef hbt hts hz1 hns hz HBA h27
  go_enter Tryd.func10, Tryd.ntmps10
  go_upto_region 1 with fail
  generalize w.alloc (.cells #[.int .i64 0, .bool false, .bool false, .int .u8 0] 27) = w1 at *
  go_wp2_with fail
  go_loopg [5, 6] n (fun kx s5 s6 wr => ∃ (j st i : Nat) (z zi : Int), s5 = .int .i64 z ∧ z = st ∧ s6 = .int .i64 zi ∧ zi = (i : Int) ∧ i = k + j ∧ 1 ≤ j ∧ i ≤ n ∧ n - i ≤ kx ∧ wr = w1 ∧ Hid (RS t st j))
  case atStart => exact ⟨1, 0, k + 1, 0, (k : Int) + 1, rfl, rfl, rfl, by omega, rfl, Nat.le_refl _, by omega, by omega, rfl, rs_start⟩
  case round =>
    obtain ⟨j, st, i, z, zi, rfl, hz, rfl, hzi, hi, hj1, hin, hg, hw, HRS⟩ := hrel
    obtain rfl : w1 = wr := hw.symm
    subst hzi
    have hij : (i : Int) - (k : Int) = (j : Int) := by omega
    have HI := hid hi
    clear hi
    by_cases hlt : i < n
    · have hlt' : (i : Int) < (n : Int) := by omega
      have hi1 : (i : Int) + 1 ≤ 9223372036854775807 := by omega
      have hj1' : (j : Int) + 1 ≤ 9223372036854775807 := by have := HI.out; omega
      have hjs : j < t.size := by have := HI.out; have := HTS.out; omega
      have hcell := HZ.out i (by have := HNS.out; omega)
      have hbc : byt s i = byt t j := by rw [HBT.out j (by have := HI.out; have := HNS.out; omega), ← HI.out]
      have hst : z = 0 ∨ z = 1 ∨ z = 2 := by
        rcases HRS.out with ⟨h, _⟩ | ⟨h, _⟩ | ⟨h, _⟩ <;> omega
      rw [hbc] at hcell
      have hj1e : st = 0 → j = 1 := fun h => by
        rcases HRS.out with ⟨_, h⟩ | ⟨h2, _⟩ | ⟨h2, _⟩
        · exact h
        · omega
        · omega
      clear hbc
      rcases hst with rfl | rfl | rfl
      · obtain rfl : st = 0 := by omega
        obtain rfl : j = 1 := hj1e rfl
        have hone : ¬ t.size = 1 := by omega
        have h91o := rs_open (t := t)
        have h2o := rs_two0 hone
        have h1o := rs_one0 hone
        generalize byt t 1 = c at *
        by_cases h91 : c = 91
        · subst h91
          have HN := hid (h91o rfl)
          (try clear hpar); (try clear hk); (try clear hoth); (try clear hwh); (try clear hbr); (try clear h91o); (try clear h2o); (try clear h1o)
          clear HRS hz hj1e hjs
          go_wp2_with fail
          go_roundg (n - (i + 1))
          case measure => omega
          case rel => exact ⟨1 + 1, 1, i + 1, 1, (i : Int) + 1, rfl, rfl, rfl, by omega, by have := HI.out; omega, by omega, by omega, Nat.le_refl _, rfl, HN⟩
        have b91 : (c == 91) = false := by simpa using h91
        by_cases f64 : 64 ≤ c
        · by_cases f95 : c ≤ 95
          · skip
            have HE := hid (show readE s k = ⟨2, true, false, c⟩ from HDEF.out.trans (h2o h91 (amT f64 f95)))
            have HF := hid (set4_blkT (e := ⟨2, true, false, c⟩) HR1.out)
            have HBF := hid (set4_below (e := ⟨2, true, false, c⟩) (Nat.le_refl w.heap.size) HB1.out)
            clear h91o h2o h1o HRS hz hj1e
            go_wp2_with fail
            (try simp only [Exit.inBlock, Exit.then])
            rw [HE.out]
            exact bodyPost_ret (results_cell_row rfl _ _ w.heap.size _ _ _ _ rfl HF.out Tryd.underlying27 rfl (by kernel_rfl)) rfl ⟨rfl, HBF.out⟩
          · skip
            have HE := hid (show readE s k = ⟨1, false, false, 0⟩ from HDEF.out.trans (h1o h91 (amF (by omega))))
            have HF := hid (set4_blkT (e := ⟨1, false, false, 0⟩) HR1.out)
            have HBF := hid (set4_below (e := ⟨1, false, false, 0⟩) (Nat.le_refl w.heap.size) HB1.out)
            clear h91o h2o h1o HRS hz hj1e
            go_wp2_with fail
            (try simp only [Exit.inBlock, Exit.then])
            rw [HE.out]
            exact bodyPost_ret (results_cell_row rfl _ _ w.heap.size _ _ _ _ rfl HF.out Tryd.underlying27 rfl (by kernel_rfl)) rfl ⟨rfl, HBF.out⟩
        · skip
          have HE := hid (show readE s k = ⟨1, false, false, 0⟩ from HDEF.out.trans (h1o h91 (amF (by omega))))
          have HF := hid (set4_blkT (e := ⟨1, false, false, 0⟩) HR1.out)
          have HBF := hid (set4_below (e := ⟨1, false, false, 0⟩) (Nat.le_refl w.heap.size) HB1.out)
          clear h91o h2o h1o HRS hz hj1e
          go_wp2_with fail
          (try simp only [Exit.inBlock, Exit.then])
          rw [HE.out]
          exact bodyPost_ret (results_cell_row rfl _ _ w.heap.size _ _ _ _ rfl HF.out Tryd.underlying27 rfl (by kernel_rfl)) rfl ⟨rfl, HBF.out⟩
      · obtain rfl : st = 1 := by omega
        have hpar := fun h => rs_par HRS.out hjs h
        have hk := fun h => rs_k HRS.out hjs h
        have hoth := @rs_oth t j
        have hwh := @rs_whole t j
        have hbr := @rs_broken t j
        generalize byt t j = c at *
        by_cases p32 : c < 32
        · skip
          have f0 : ¬ (32 : Int) ≤ c := by omega
          have f1 : c ≤ 47 := by omega
          have f2 : ¬ (48 : Int) ≤ c := by omega
          have f3 : c ≤ 63 := by omega
          have f4 : ¬ (64 : Int) ≤ c := by omega
          have f5 : c ≤ 95 := by omega
          have f6 : c ≤ 126 := by omega
          have HE := hid (show readE s k = ⟨j, false, false, 0⟩ from HDEF.out.trans (hbr (hk (amF (by omega))) hjs (amF (by omega)) (amF (by omega))))
          have HF := hid (set4_blkT (e := ⟨j, false, false, 0⟩) HR1.out)
          have HBF := hid (set4_below (e := ⟨j, false, false, 0⟩) (Nat.le_refl w.heap.size) HB1.out)
          (try clear hpar); (try clear hk); (try clear hoth); (try clear hwh); (try clear hbr); (try clear h91o); (try clear h2o); (try clear h1o)
          clear HRS hz hj1e hjs
          go_wp2_with fail
          (try simp only [Exit.inBlock, Exit.then])
          rw [HE.out]
          exact bodyPost_ret (results_cell_row rfl _ _ w.heap.size _ _ _ _ rfl HF.out Tryd.underlying27 rfl (by kernel_rfl)) rfl ⟨rfl, HBF.out⟩
        by_cases p48 : c < 48
        · skip
          have f0 : 32 ≤ c := by omega
          have f1 : c ≤ 47 := by omega
          have f2 : ¬ (48 : Int) ≤ c := by omega
          have f3 : c ≤ 63 := by omega
          have f4 : ¬ (64 : Int) ≤ c := by omega
          have f5 : c ≤ 95 := by omega
          have f6 : c ≤ 126 := by omega
          have HN := hid (hoth (hk (amF (by omega))) hjs (amT (by omega) (by omega)))
          (try clear hpar); (try clear hk); (try clear hoth); (try clear hwh); (try clear hbr); (try clear h91o); (try clear h2o); (try clear h1o)
          clear HRS hz hj1e hjs
          go_wp2_with fail
          go_roundg (n - (i + 1))
          case measure => omega
          case rel => exact ⟨j + 1, 2, i + 1, 2, (i : Int) + 1, rfl, rfl, rfl, by omega, by have := HI.out; omega, by omega, by omega, Nat.le_refl _, rfl, HN⟩
        by_cases p64 : c < 64
        · skip
          have f0 : 32 ≤ c := by omega
          have f1 : ¬ c ≤ (47 : Int) := by omega
          have f2 : 48 ≤ c := by omega
          have f3 : c ≤ 63 := by omega
          have f4 : ¬ (64 : Int) ≤ c := by omega
          have f5 : c ≤ 95 := by omega
          have f6 : c ≤ 126 := by omega
          have HN := hid (hpar (amT (by omega) (by omega)))
          (try clear hpar); (try clear hk); (try clear hoth); (try clear hwh); (try clear hbr); (try clear h91o); (try clear h2o); (try clear h1o)
          clear HRS hz hj1e hjs
          go_wp2_with fail
          go_roundg (n - (i + 1))
          case measure => omega
          case rel => exact ⟨j + 1, 1, i + 1, 1, (i : Int) + 1, rfl, rfl, rfl, by omega, by have := HI.out; omega, by omega, by omega, Nat.le_refl _, rfl, HN⟩
        by_cases p96 : c < 96
        · skip
          have f0 : 32 ≤ c := by omega
          have f1 : ¬ c ≤ (47 : Int) := by omega
          have f2 : 48 ≤ c := by omega
          have f3 : ¬ c ≤ (63 : Int) := by omega
          have f4 : 64 ≤ c := by omega
          have f5 : c ≤ 95 := by omega
          have f6 : c ≤ 126 := by omega
          have HE := hid (show readE s k = ⟨j + 1, true, false, c⟩ from HDEF.out.trans (hwh (hk (amF (by omega))) hjs (amF (by omega)) (amT (by omega) (by omega))))
          have HF := hid (set4_blkT (e := ⟨j + 1, true, false, c⟩) HR1.out)
          have HBF := hid (set4_below (e := ⟨j + 1, true, false, c⟩) (Nat.le_refl w.heap.size) HB1.out)
          (try clear hpar); (try clear hk); (try clear hoth); (try clear hwh); (try clear hbr); (try clear h91o); (try clear h2o); (try clear h1o)
          clear HRS hz hj1e hjs
          go_wp2_with fail
          (try simp only [Exit.inBlock, Exit.then])
          rw [HE.out]
          exact bodyPost_ret (results_cell_row rfl _ _ w.heap.size _ _ _ _ rfl HF.out Tryd.underlying27 rfl (by kernel_rfl)) rfl ⟨rfl, HBF.out⟩
        by_cases p127 : c < 127
        · skip
          have f0 : 32 ≤ c := by omega
          have f1 : ¬ c ≤ (47 : Int) := by omega
          have f2 : 48 ≤ c := by omega
          have f3 : ¬ c ≤ (63 : Int) := by omega
          have f4 : 64 ≤ c := by omega
          have f5 : ¬ c ≤ (95 : Int) := by omega
          have f6 : c ≤ 126 := by omega
          have HE := hid (show readE s k = ⟨j + 1, true, false, c⟩ from HDEF.out.trans (hwh (hk (amF (by omega))) hjs (amF (by omega)) (amT (by omega) (by omega))))
          have HF := hid (set4_blkT (e := ⟨j + 1, true, false, c⟩) HR1.out)
          have HBF := hid (set4_below (e := ⟨j + 1, true, false, c⟩) (Nat.le_refl w.heap.size) HB1.out)
          (try clear hpar); (try clear hk); (try clear hoth); (try clear hwh); (try clear hbr); (try clear h91o); (try clear h2o); (try clear h1o)
          clear HRS hz hj1e hjs
          go_wp2_with fail
          (try simp only [Exit.inBlock, Exit.then])
          rw [HE.out]
          exact bodyPost_ret (results_cell_row rfl _ _ w.heap.size _ _ _ _ rfl HF.out Tryd.underlying27 rfl (by kernel_rfl)) rfl ⟨rfl, HBF.out⟩
        have f0 : 32 ≤ c := by omega
        have f1 : ¬ c ≤ (47 : Int) := by omega
        have f2 : 48 ≤ c := by omega
        have f3 : ¬ c ≤ (63 : Int) := by omega
        have f4 : 64 ≤ c := by omega
        have f5 : ¬ c ≤ (95 : Int) := by omega
        have f6 : ¬ c ≤ (126 : Int) := by omega
        have HE := hid (show readE s k = ⟨j, false, false, 0⟩ from HDEF.out.trans (hbr (hk (amF (by omega))) hjs (amF (by omega)) (amF (by omega))))
        have HF := hid (set4_blkT (e := ⟨j, false, false, 0⟩) HR1.out)
        have HBF := hid (set4_below (e := ⟨j, false, false, 0⟩) (Nat.le_refl w.heap.size) HB1.out)
        (try clear hpar); (try clear hk); (try clear hoth); (try clear hwh); (try clear hbr); (try clear h91o); (try clear h2o); (try clear h1o)
        clear HRS hz hj1e hjs
        go_wp2_with fail
        (try simp only [Exit.inBlock, Exit.then])
        rw [HE.out]
        exact bodyPost_ret (results_cell_row rfl _ _ w.heap.size _ _ _ _ rfl HF.out Tryd.underlying27 rfl (by kernel_rfl)) rfl ⟨rfl, HBF.out⟩
      · obtain rfl : st = 2 := by omega
        have hpar := True.intro
        have hk := rs_two HRS.out
        have hoth := @rs_oth t j
        have hwh := @rs_whole t j
        have hbr := @rs_broken t j
        generalize byt t j = c at *
        by_cases p32 : c < 32
        · skip
          have f0 : ¬ (32 : Int) ≤ c := by omega
          have f1 : c ≤ 47 := by omega
          have f2 : ¬ (48 : Int) ≤ c := by omega
          have f3 : c ≤ 63 := by omega
          have f4 : ¬ (64 : Int) ≤ c := by omega
          have f5 : c ≤ 95 := by omega
          have f6 : c ≤ 126 := by omega
          have HE := hid (show readE s k = ⟨j, false, false, 0⟩ from HDEF.out.trans (hbr hk hjs (amF (by omega)) (amF (by omega))))
          have HF := hid (set4_blkT (e := ⟨j, false, false, 0⟩) HR1.out)
          have HBF := hid (set4_below (e := ⟨j, false, false, 0⟩) (Nat.le_refl w.heap.size) HB1.out)
          (try clear hpar); (try clear hk); (try clear hoth); (try clear hwh); (try clear hbr); (try clear h91o); (try clear h2o); (try clear h1o)
          clear HRS hz hj1e hjs
          go_wp2_with fail
          (try simp only [Exit.inBlock, Exit.then])
          rw [HE.out]
          exact bodyPost_ret (results_cell_row rfl _ _ w.heap.size _ _ _ _ rfl HF.out Tryd.underlying27 rfl (by kernel_rfl)) rfl ⟨rfl, HBF.out⟩
        by_cases p48 : c < 48
        · skip
          have f0 : 32 ≤ c := by omega
          have f1 : c ≤ 47 := by omega
          have f2 : ¬ (48 : Int) ≤ c := by omega
          have f3 : c ≤ 63 := by omega
          have f4 : ¬ (64 : Int) ≤ c := by omega
          have f5 : c ≤ 95 := by omega
          have f6 : c ≤ 126 := by omega
          have HN := hid (hoth hk hjs (amT (by omega) (by omega)))
          (try clear hpar); (try clear hk); (try clear hoth); (try clear hwh); (try clear hbr); (try clear h91o); (try clear h2o); (try clear h1o)
          clear HRS hz hj1e hjs
          go_wp2_with fail
          go_roundg (n - (i + 1))
          case measure => omega
          case rel => exact ⟨j + 1, 2, i + 1, 2, (i : Int) + 1, rfl, rfl, rfl, by omega, by have := HI.out; omega, by omega, by omega, Nat.le_refl _, rfl, HN⟩
        by_cases p64 : c < 64
        · skip
          have f0 : 32 ≤ c := by omega
          have f1 : ¬ c ≤ (47 : Int) := by omega
          have f2 : 48 ≤ c := by omega
          have f3 : c ≤ 63 := by omega
          have f4 : ¬ (64 : Int) ≤ c := by omega
          have f5 : c ≤ 95 := by omega
          have f6 : c ≤ 126 := by omega
          have HE := hid (show readE s k = ⟨j, false, false, 0⟩ from HDEF.out.trans (hbr hk hjs (amF (by omega)) (amF (by omega))))
          have HF := hid (set4_blkT (e := ⟨j, false, false, 0⟩) HR1.out)
          have HBF := hid (set4_below (e := ⟨j, false, false, 0⟩) (Nat.le_refl w.heap.size) HB1.out)
          (try clear hpar); (try clear hk); (try clear hoth); (try clear hwh); (try clear hbr); (try clear h91o); (try clear h2o); (try clear h1o)
          clear HRS hz hj1e hjs
          go_wp2_with fail
          (try simp only [Exit.inBlock, Exit.then])
          rw [HE.out]
          exact bodyPost_ret (results_cell_row rfl _ _ w.heap.size _ _ _ _ rfl HF.out Tryd.underlying27 rfl (by kernel_rfl)) rfl ⟨rfl, HBF.out⟩
        by_cases p96 : c < 96
        · skip
          have f0 : 32 ≤ c := by omega
          have f1 : ¬ c ≤ (47 : Int) := by omega
          have f2 : 48 ≤ c := by omega
          have f3 : ¬ c ≤ (63 : Int) := by omega
          have f4 : 64 ≤ c := by omega
          have f5 : c ≤ 95 := by omega
          have f6 : c ≤ 126 := by omega
          have HE := hid (show readE s k = ⟨j + 1, true, false, c⟩ from HDEF.out.trans (hwh hk hjs (amF (by omega)) (amT (by omega) (by omega))))
          have HF := hid (set4_blkT (e := ⟨j + 1, true, false, c⟩) HR1.out)
          have HBF := hid (set4_below (e := ⟨j + 1, true, false, c⟩) (Nat.le_refl w.heap.size) HB1.out)
          (try clear hpar); (try clear hk); (try clear hoth); (try clear hwh); (try clear hbr); (try clear h91o); (try clear h2o); (try clear h1o)
          clear HRS hz hj1e hjs
          go_wp2_with fail
          (try simp only [Exit.inBlock, Exit.then])
          rw [HE.out]
          exact bodyPost_ret (results_cell_row rfl _ _ w.heap.size _ _ _ _ rfl HF.out Tryd.underlying27 rfl (by kernel_rfl)) rfl ⟨rfl, HBF.out⟩
        by_cases p127 : c < 127
        · skip
          have f0 : 32 ≤ c := by omega
          have f1 : ¬ c ≤ (47 : Int) := by omega
          have f2 : 48 ≤ c := by omega
          have f3 : ¬ c ≤ (63 : Int) := by omega
          have f4 : 64 ≤ c := by omega
          have f5 : ¬ c ≤ (95 : Int) := by omega
          have f6 : c ≤ 126 := by omega
          have HE := hid (show readE s k = ⟨j + 1, true, false, c⟩ from HDEF.out.trans (hwh hk hjs (amF (by omega)) (amT (by omega) (by omega))))
          have HF := hid (set4_blkT (e := ⟨j + 1, true, false, c⟩) HR1.out)
          have HBF := hid (set4_below (e := ⟨j + 1, true, false, c⟩) (Nat.le_refl w.heap.size) HB1.out)
          (try clear hpar); (try clear hk); (try clear hoth); (try clear hwh); (try clear hbr); (try clear h91o); (try clear h2o); (try clear h1o)
          clear HRS hz hj1e hjs
          go_wp2_with fail
          (try simp only [Exit.inBlock, Exit.then])
          rw [HE.out]
          exact bodyPost_ret (results_cell_row rfl _ _ w.heap.size _ _ _ _ rfl HF.out Tryd.underlying27 rfl (by kernel_rfl)) rfl ⟨rfl, HBF.out⟩
        have f0 : 32 ≤ c := by omega
        have f1 : ¬ c ≤ (47 : Int) := by omega
        have f2 : 48 ≤ c := by omega
        have f3 : ¬ c ≤ (63 : Int) := by omega
        have f4 : 64 ≤ c := by omega
        have f5 : ¬ c ≤ (95 : Int) := by omega
        have f6 : ¬ c ≤ (126 : Int) := by omega
        have HE := hid (show readE s k = ⟨j, false, false, 0⟩ from HDEF.out.trans (hbr hk hjs (amF (by omega)) (amF (by omega))))
        have HF := hid (set4_blkT (e := ⟨j, false, false, 0⟩) HR1.out)
        have HBF := hid (set4_below (e := ⟨j, false, false, 0⟩) (Nat.le_refl w.heap.size) HB1.out)
        (try clear hpar); (try clear hk); (try clear hoth); (try clear hwh); (try clear hbr); (try clear h91o); (try clear h2o); (try clear h1o)
        clear HRS hz hj1e hjs
        go_wp2_with fail
        (try simp only [Exit.inBlock, Exit.then])
        rw [HE.out]
        exact bodyPost_ret (results_cell_row rfl _ _ w.heap.size _ _ _ _ rfl HF.out Tryd.underlying27 rfl (by kernel_rfl)) rfl ⟨rfl, HBF.out⟩
    · have hlt' : ¬ (i : Int) < (n : Int) := by omega
      have hnk : (n : Int) - (k : Int) = ((n - k : Nat) : Int) := by omega
      have HE := hid (show readE s k = ⟨n - k, false, true, 0⟩ by rw [HDEF.out, rs_end HRS.out (by have := HI.out; have := HTS.out; omega), HTS.out])
      have HF := hid (set4_blkT (e := ⟨n - k, false, true, 0⟩) HR1.out)
      have HBF := hid (set4_below (e := ⟨n - k, false, true, 0⟩) (Nat.le_refl w.heap.size) HB1.out)
      have HNK := hid hnk
      clear hz hij
      generalize n - k = d at *
      go_wp2_with fail
      (try simp only [Exit.inBlock, Exit.then])
      rw [HE.out]
      exact bodyPost_ret (results_cell_row rfl _ _ w.heap.size _ _ _ _ rfl HF.out Tryd.underlying27 rfl (by kernel_rfl)) rfl ⟨rfl, HBF.out⟩
end Go.Proofs.YtlopigkaibkblaaDoor
