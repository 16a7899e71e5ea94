/- Chapter 17: the escape at a place: the walk of Read. -/
import Derived.Test.YtlopigkaibkblaaDoorAnB
namespace Go.Proofs.YtlopigkaibkblaaDoor
open Go.RowKit
open Go.Lib (hid)
set_option linter.unusedVariables false

set_option maxRecDepth 100000 in
set_option maxHeartbeats 8000000 in
theorem read_any (a : Option Addr) (n cap : Nat) (i : Int) (s : ByteArray) (w : World) (hb : BA w a n cap s) (hm : n ≤ 1048576) (hi63 : i ≤ 9223372036854775807) :
    Calls Tryd.prog 9 #[.slice a n cap, .int .i64 i] w fun e w' => e = .returned (readE s i).val ∧ Below w.heap.size w w' := by
  have hb1 := (Below.refl w.heap.size w).alloc (Nat.le_refl _) (.cells es0c 25)
  have hr1 := Blk.new w 25 es0c
  have hbeg := fun W (h : BA W a n cap s) => begins_any a n cap i s W h hi63
  have hbeg1 := hbeg _ (hb.below hb1 (Nat.le_refl _))
  have r0 := hr1.cell 0
  have r1 := hr1.cell 1
  have r2 := hr1.cell 2
  have r3 := hr1.cell 3
  have frr := hr1.frozen
  simp only [es0c, List.getElem?_toArray, List.getElem?_cons_zero, List.getElem?_cons_succ] at r0 r1 r2 r3 frr hbeg1
  have hF0 := set4_blk (e := es0) hr1
  have hBF0 := set4_below (e := es0) (Nat.le_refl w.heap.size) hb1
  have hdef : readE s i = if 0 ≤ i ∧ i < s.size ∧ byt s i.toNat = 27 then headE (s.extract i.toNat s.size) else es0 := rfl
  have HR1 := hid hr1
  have HB1 := hid hb1
  have HF0 := hid hF0
  have HBF0 := hid hBF0
  have HBA := hid hb
  simp only [es0c] at HR1 HB1 HF0 HBF0
  clear hr1 hb1 hF0 hBF0 hbeg hb
  by_cases hbe : 0 ≤ i ∧ i < (n : Int) ∧ byt s i.toNat = 27
  · have hbs : 0 ≤ i ∧ i < (s.size : Int) ∧ byt s i.toNat = 27 := ⟨hbe.1, by have := HBA.out.1; omega, hbe.2.2⟩
    rw [if_pos hbs] at hdef
    clear hbs
    rw [show decide (0 ≤ i ∧ i < (n : Int) ∧ byt s i.toNat = 27) = true from decide_eq_true hbe] at hbeg1
    obtain ⟨h0, h1, h27⟩ := hbe
    obtain ⟨k, rfl⟩ : ∃ k : Nat, i = k := ⟨i.toNat, by omega⟩
    rw [show ((k : Int)).toNat = k from rfl] at hdef h27
    have hkn : k < n := by omega
    obtain ⟨b, off, rfl, hbl, hz⟩ := HBA.out.2.2.2 (by omega)
    have hcap := HBA.out.2.1
    have h63 := HBA.out.2.2.1
    have hns := HBA.out.1
    have hsl := fun W => slice_tail b off n cap k (by omega) hcap W
    simp only [show offIf cap k off = off + k by unfold offIf; rw [if_neg (by omega)]] at hsl
    have hz1 : Lib.Bytes (w.alloc (.cells #[.int .i64 0, .bool false, .bool false, .int .u8 0] 25)) b (off + k) (s.extract k s.size) := by
      apply bytes_of_byt
      intro j hj
      have := bytes_tail hns hcap hz j (i := k) (by rw [ByteArray.size_extract] at hj; omega)
      rw [show offIf cap k off = off + k by unfold offIf; rw [if_neg (by omega)]] at this
      exact (HB1.out.cell (p := ⟨b, _, none⟩) hbl).trans this
    have hts : n - k = (s.extract k s.size).size := by rw [ByteArray.size_extract]; omega
    have hsq := fun (h2 : 2 ≤ n - k) => sequence_any b (off + k) (n - k) (cap - k) (s.extract k s.size) hts h2 (by omega) (by omega) (by omega) _ (Nat.lt_of_lt_of_le hbl HB1.out.size) hz1
    generalize s.extract k s.size = t at *
    have HBEG := hid hbeg1
    have HSQ := hid hsq
    have HTS := hid hts
    have HDEF := hid hdef
    have HZ1 := hid hz1
    clear hbeg1 hsq hts hdef hz1 hz hns h27 HBA
    by_cases hone : n - k = 1
    · have HE := hid (show readE s k = ⟨1, false, true, 0⟩ by rw [HDEF.out]; unfold headE; rw [if_pos (by have := HTS.out; omega)])
      rw [hone] at hsl
      have HF := hid (set4_blk (e := ⟨1, false, true, 0⟩) HR1.out)
      have HBF := hid (set4_below (e := ⟨1, false, true, 0⟩) (Nat.le_refl w.heap.size) HB1.out)
      clear HSQ HDEF HTS hone
      go_enter Tryd.func9, Tryd.ntmps9
      go_upto_region 1 with fail
      generalize w.alloc (.cells #[.int .i64 0, .bool false, .bool false, .int .u8 0] 25) = w1 at *
      go_wp2_with fail
      refine HBEG.out.mono ?_
      rintro e w2 ⟨rfl, hw⟩
      obtain rfl : w1 = w2 := hw.symm
      go_wp2_with fail
      (try simp only [Exit.inBlock, Exit.then])
      rw [HE.out]
      exact bodyPost_ret (results_cell_row rfl _ _ w.heap.size _ _ _ _ rfl HF.out Tryd.underlying25 rfl (by kernel_rfl)) rfl ⟨rfl, HBF.out⟩
    · have hone' : ¬ ((n - k : Nat) : Int) = 1 := by omega
      have honeb : (((n - k : Nat) : Int) == 1) = false := by simpa using hone'
      have hts1 : ¬ t.size = 1 := by have := HTS.out; omega
      have hd := HDEF.out
      unfold headE at hd
      rw [if_neg hts1] at hd
      have hc1 := bytes_cell HZ1.out (i := 1) (by have := HTS.out; omega)
      have hln : (1 : Int) < ((n - k : Nat) : Int) := by omega
      by_cases h91 : byt t 1 = 91
      · rw [if_pos h91] at hd
        rw [h91] at hc1
        have hsq := HSQ.out (by omega)
        have HE := hid hd
        have HSQ1 := hid hsq
        clear hd hsq HSQ HDEF HTS hts1 h91 hone
        go_enter Tryd.func9, Tryd.ntmps9
        go_upto_region 1 with fail
        generalize w.alloc (.cells #[.int .i64 0, .bool false, .bool false, .int .u8 0] 25) = w1 at *
        go_wp2_with fail
        refine HBEG.out.mono ?_
        rintro e w2 ⟨rfl, hw⟩
        obtain rfl : w1 = w2 := hw.symm
        go_wp2_with fail
        refine HSQ1.out.mono ?_
        rintro e w2 ⟨rfl, hb2⟩
        generalize seqE t = q at HE ⊢
        obtain ⟨qs, qw, qo, ql⟩ := q
        simp only [Es.val]
        have hr2 := HR1.out.below hb2 HR1.out.lt
        have hb3 := (Below.refl w2.heap.size w2).alloc (Nat.le_refl _) (.cells #[.int .i64 qs, .bool qw, .bool qo, .int .u8 ql] 25)
        have hq3 := Blk.new w2 25 #[.int .i64 qs, .bool qw, .bool qo, .int .u8 ql]
        have hr3 := hr2.below hb3 hr2.lt
        have HB3 := hid ((HB1.out.trans (hb2.mono HB1.out.size)).trans (hb3.mono (by have := HB1.out.size; have := hb2.size; omega)))
        go_upto_region 8 with fail
        generalize w2.alloc (.cells #[.int .i64 qs, .bool qw, .bool qo, .int .u8 ql] 25) = w3 at *
        have k0 := hr3.cell 0
        have k1 := hr3.cell 1
        have k2 := hr3.cell 2
        have k3 := hr3.cell 3
        have frk := hr3.frozen
        have q0 := hq3.cell 0
        have q1 := hq3.cell 1
        have q2 := hq3.cell 2
        have q3 := hq3.cell 3
        simp only [List.getElem?_toArray, List.getElem?_cons_zero, List.getElem?_cons_succ] at k0 k1 k2 k3 q0 q1 q2 q3
        have HF := hid (set4_blk (e := ⟨qs, qw, qo, ql⟩) hr3)
        have HBF := hid (set4_below (e := ⟨qs, qw, qo, ql⟩) (Nat.le_refl w.heap.size) HB3.out)
        clear hr2 hr3 hq3 hb2 hb3 r0 r1 r2 r3 frr
        go_wp2_with fail
        (try simp only [Exit.inBlock, Exit.then])
        rw [HE.out]
        exact bodyPost_ret (results_cell_row rfl _ _ w.heap.size _ _ _ _ rfl HF.out Tryd.underlying25 rfl (by kernel_rfl)) rfl ⟨rfl, HBF.out⟩
      · have b91 : (byt t 1 == 91) = false := by simpa using h91
        rw [if_neg h91] at hd
        have ham := fun W => among_any (byt t 1) 64 95 W
        generalize byt t 1 = c at *
        cases hp : amongB 64 95 c
        · rw [hp] at ham
          rw [if_neg (by rw [hp]; decide)] at hd
          have HE := hid hd
          have HAM := hid ham
          have HF := hid (set4_blk (e := ⟨1, false, false, 0⟩) HR1.out)
          have HBF := hid (set4_below (e := ⟨1, false, false, 0⟩) (Nat.le_refl w.heap.size) HB1.out)
          clear hd ham hp HSQ HDEF HTS hts1 hone
          go_enter Tryd.func9, Tryd.ntmps9
          go_upto_region 1 with fail
          generalize w.alloc (.cells #[.int .i64 0, .bool false, .bool false, .int .u8 0] 25) = w1 at *
          go_wp2_with fail
          refine HBEG.out.mono ?_
          rintro e w2 ⟨rfl, hw⟩
          obtain rfl : w1 = w2 := hw.symm
          go_wp2_with fail
          refine (HAM.out _).mono ?_
          rintro e w2 ⟨rfl, hw⟩
          obtain rfl : w1 = w2 := hw.symm
          go_wp2_with fail
          (try simp only [Exit.inBlock, Exit.then])
          rw [HE.out]
          exact bodyPost_ret (results_cell_row rfl _ _ w.heap.size _ _ _ _ rfl HF.out Tryd.underlying25 rfl (by kernel_rfl)) rfl ⟨rfl, HBF.out⟩
        · rw [hp] at ham
          rw [if_pos hp] at hd
          have HE := hid hd
          have HAM := hid ham
          have HF := hid (set4_blk (e := ⟨2, true, false, c⟩) HR1.out)
          have HBF := hid (set4_below (e := ⟨2, true, false, c⟩) (Nat.le_refl w.heap.size) HB1.out)
          clear hd ham hp HSQ HDEF HTS hts1 hone
          go_enter Tryd.func9, Tryd.ntmps9
          go_upto_region 1 with fail
          generalize w.alloc (.cells #[.int .i64 0, .bool false, .bool false, .int .u8 0] 25) = w1 at *
          go_wp2_with fail
          refine HBEG.out.mono ?_
          rintro e w2 ⟨rfl, hw⟩
          obtain rfl : w1 = w2 := hw.symm
          go_wp2_with fail
          refine (HAM.out _).mono ?_
          rintro e w2 ⟨rfl, hw⟩
          obtain rfl : w1 = w2 := hw.symm
          go_wp2_with fail
          (try simp only [Exit.inBlock, Exit.then])
          rw [HE.out]
          exact bodyPost_ret (results_cell_row rfl _ _ w.heap.size _ _ _ _ rfl HF.out Tryd.underlying25 rfl (by kernel_rfl)) rfl ⟨rfl, HBF.out⟩
  · have hbs : ¬ (0 ≤ i ∧ i < (s.size : Int) ∧ byt s i.toNat = 27) := fun h => hbe ⟨h.1, by have := HBA.out.1; omega, h.2.2⟩
    rw [if_neg hbs] at hdef
    clear hbs
    rw [show decide (0 ≤ i ∧ i < (n : Int) ∧ byt s i.toNat = 27) = false from decide_eq_false hbe] at hbeg1
    have HE := hid hdef
    have HBEG := hid hbeg1
    clear hdef hbeg1 hbe HBA
    go_enter Tryd.func9, Tryd.ntmps9
    go_upto_region 1 with fail
    generalize w.alloc (.cells #[.int .i64 0, .bool false, .bool false, .int .u8 0] 25) = w1 at *
    go_wp2_with fail
    refine HBEG.out.mono ?_
    rintro e w2 ⟨rfl, hw⟩
    obtain rfl : w1 = w2 := hw.symm
    go_wp2_with fail
    (try simp only [Exit.inBlock, Exit.then])
    rw [HE.out]
    exact bodyPost_ret (results_cell_row rfl _ _ w.heap.size _ _ _ _ rfl HF0.out Tryd.underlying25 rfl (by kernel_rfl)) rfl ⟨rfl, HBF0.out⟩
end Go.Proofs.YtlopigkaibkblaaDoor
