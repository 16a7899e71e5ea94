/- Chapter 17: the document's numbers: the walk. -/
import Derived.Test.YtlopigkaibkblaaDoorAnP
import Derived.Test.YtlopigkaibkblaaDoorAnR
import Derived.Laws.OwnMore
namespace Go.Proofs.YtlopigkaibkblaaDoor
open Go.RowKit
open Go.Lib (hid)
set_option linter.unusedVariables false

theorem wrap8 (c : Int) (h0 : 0 ≤ c) (h1 : c ≤ 255) : IntKind.u8.wrap c = c := by
  have h : c % 256 = c := Int.emod_eq_of_lt h0 (by omega)
  show c % 256 = c
  exact h
/-- What a whole escape's numbers are. -/
theorem nums_whole (t : ByteArray) (h2 : 2 ≤ t.size) (hw : (seqE t).whole = true) : headN t = numsL (piecesB (t.extract 2 (seqN t))) ∧ (seqE t).size = seqN t + 1 ∧ seqN t < t.size := by
  have hN : seqN t < t.size := by
    unfold seqE at hw
    split at hw
    · rename_i h; exact h.1
    · cases hw
  have hsz : (seqE t).size = seqN t + 1 := by
    unfold seqE at hw ⊢
    split
    · rfl
    · rename_i h; rw [if_neg h] at hw; cases hw
  refine ⟨?_, hsz, hN⟩
  have hge := seqN_ge t
  unfold headN
  by_cases hKN : seqK t < seqN t
  · rw [if_pos (.inr hKN)]
    have hc : amongB 32 47 (byt t (seqK t)) = true := by
      cases hp : amongB 32 47 (byt t (seqK t))
      · exfalso
        have : seqN t = seqK t := passTo_stop (by omega) hp
        omega
      · rfl
    have hr : 32 ≤ byt t (seqK t) ∧ byt t (seqK t) ≤ 47 := of_decide_eq_true hc
    have hb := byt_extract t 2 (seqN t) (seqK t - 2) (by omega) (by omega)
    rw [show 2 + (seqK t - 2) = seqK t by omega] at hb
    exact (nums_bad _ (t.extract 2 (seqN t)) (Nat.le_refl _) (seqK t - 2) (by rw [ByteArray.size_extract]; omega) (by rw [hb]; omega) (by rw [hb]; omega)).symm
  · rw [if_neg (fun h => h.elim (fun h => by rw [hw] at h; cases h) hKN), show seqK t = seqN t by omega]

set_option maxRecDepth 100000 in
set_option maxHeartbeats 8000000 in
theorem refnums_any (a : Option Addr) (n cap : Nat) (i : Int) (s : ByteArray) (w : World) (hb : BA w a n cap s) (hm : n ≤ 1048576) (hi63 : i ≤ 9223372036854775807) :
    Calls Tryd.prog 12 #[.slice a n cap, .int .i64 i] w fun e w' =>
      ∃ v, e = .returned (.tuple #[v, .bool (numsV s i).isSome]) ∧ Below w.heap.size w w' ∧ w'.ownsRow w.heap.size 3 1 v ((numsV s i).getD []).length (intCells ((numsV s i).getD [])) := by
  have hrd := refread_any a n cap i s w hb hm hi63
  have hns := hb.1
  have HBA := hid hb
  clear hb
  have hno : (readE s i).whole = false → numsV s i = none := fun h => by
    unfold numsV
    split
    · rename_i hc
      have he : readE s i = headE (s.extract i.toNat s.size) := by unfold readE; rw [if_pos hc.1]
      rw [he] at h
      have hsz : (s.extract i.toNat s.size).size = s.size - i.toNat := by rw [ByteArray.size_extract]; omega
      have hb1 : byt (s.extract i.toNat s.size) 1 = 91 := by
        rw [byt_extract s i.toNat s.size 1 (by omega) (Nat.le_refl _), show i.toNat + 1 = (i + 1).toNat by omega]
        exact hc.2.2
      rw [head_seq (by omega) hb1] at h
      unfold headN
      rw [if_pos (.inl h)]
    · rfl
  have hyes : (readE s i).whole = true → 0 ≤ i ∧ i + 1 < s.size ∧ (byt s (i + 1).toNat ≠ 91 → numsV s i = none) ∧
      (byt s (i + 1).toNat = 91 → ∃ N, 2 ≤ N ∧ (readE s i).size = N + 1 ∧ i + (N : Int) < s.size ∧ numsV s i = numsL (piecesB ((s.extract i.toNat s.size).extract 2 N)) ∧ (s.extract i.toNat s.size).size = s.size - i.toNat) := fun h => by
    by_cases hc : 0 ≤ i ∧ i < s.size ∧ byt s i.toNat = 27
    · have he : readE s i = headE (s.extract i.toNat s.size) := by unfold readE; rw [if_pos hc]
      have hsz : (s.extract i.toNat s.size).size = s.size - i.toNat := by rw [ByteArray.size_extract]; omega
      rw [he] at h
      have h1 : ¬ (s.extract i.toNat s.size).size = 1 := fun h1 => by unfold headE at h; rw [if_pos h1] at h; cases h
      refine ⟨hc.1, by omega, fun h91 => ?_, fun h91 => ?_⟩
      · unfold numsV
        exact if_neg fun hx => h91 hx.2.2
      · have hb1 : byt (s.extract i.toNat s.size) 1 = 91 := by
          rw [byt_extract s i.toNat s.size 1 (by omega) (Nat.le_refl _), show i.toNat + 1 = (i + 1).toNat by omega]
          exact h91
        rw [head_seq h1 hb1] at h
        obtain ⟨e1, e2, e3⟩ := nums_whole _ (by omega) h
        refine ⟨seqN (s.extract i.toNat s.size), by have := seqN_ge (s.extract i.toNat s.size); omega, by rw [he, head_seq h1 hb1]; exact e2, by omega, ?_, hsz⟩
        unfold numsV
        rw [if_pos ⟨hc, by omega, h91⟩]
        exact e1
    · exfalso
      unfold readE at h
      rw [if_neg hc] at h
      cases h
  generalize readE s i = e at *
  obtain ⟨z, wh, op, la⟩ := e
  simp only at hno hyes
  simp only [Es.val] at hrd
  have HRD := hid hrd
  clear hrd
  cases wh
  · have HE := hid (hno rfl)
    clear hno hyes HBA hns
    go_enter Tryd.func12, Tryd.ntmps12
    go_wp2_with fail
    refine HRD.out.mono ?_
    rintro e w2 ⟨rfl, hb2⟩
    have HB3 := hid (hb2.alloc hb2.size (.cells #[.int .i64 z, .bool false, .bool op, .int .u8 la] 27))
    clear hb2
    go_wp2_with fail
    go_ret2
    rw [HE.out]
    exact ⟨_, rfl, HB3.out, rfl, .inl ⟨rfl, rfl⟩⟩
  obtain ⟨h0, h1, hn91, hy91⟩ := hyes rfl
  clear hno hyes
  obtain ⟨k, rfl⟩ : ∃ k : Nat, i = k := ⟨i.toNat, by omega⟩
  rw [show ((k : Int) + 1).toNat = k + 1 by omega] at hn91 hy91
  rw [show ((k : Int)).toNat = k from rfl] at hy91
  obtain ⟨b0, off, rfl, hbl, hzb⟩ := HBA.out.2.2.2 (by omega)
  have hc1 := bytes_cell hzb (i := k + 1) (by omega)
  obtain ⟨k1, hk1e⟩ : ∃ k1, k1 = k + 1 := ⟨_, rfl⟩
  rw [← hk1e] at hc1 hn91 hy91
  have hke : (k : Int) + 1 = (k1 : Int) := by omega
  have hk1n : (k1 : Int) < (n : Int) := by omega
  have hk163 : (k1 : Int) ≤ 9223372036854775807 := by omega
  have HK1 := hid hk1e
  clear hk1e
  by_cases h91n : ¬ byt s k1 = 91
  · have HE := hid (hn91 h91n)
    have b91 : (byt s k1 != 91) = true := by simpa using h91n
    clear hn91 hy91 h91n HBA hns hzb
    generalize byt s k1 = c at *
    go_enter Tryd.func12, Tryd.ntmps12
    go_wp2_with fail
    refine HRD.out.mono ?_
    rintro e w2 ⟨rfl, hb2⟩
    have hb3 := (Below.refl w2.heap.size w2).alloc (Nat.le_refl _) (.cells #[.int .i64 z, .bool true, .bool op, .int .u8 la] 27)
    have hr3 := Blk.new w2 27 #[.int .i64 z, .bool true, .bool op, .int .u8 la]
    have HB3 := hid (hb2.trans (hb3.mono hb2.size))
    have hc3 := (hb3.cell (p := ⟨b0, _, none⟩) (Nat.lt_of_lt_of_le hbl hb2.size)).trans ((hb2.cell (p := ⟨b0, _, none⟩) hbl).trans hc1)
    go_upto_region 2 with fail
    generalize w2.alloc (.cells #[.int .i64 z, .bool true, .bool op, .int .u8 la] 27) = w3 at *
    have q1 := hr3.cell 1
    simp only [List.getElem?_toArray, List.getElem?_cons_zero, List.getElem?_cons_succ] at q1
    clear hb2 hb3 hr3 hc1
    go_wp2_with fail
    go_ret2
    rw [HE.out]
    exact ⟨_, rfl, HB3.out, rfl, .inl ⟨rfl, rfl⟩⟩
  have h91 := Classical.not_not.1 h91n
  obtain ⟨N, hN2, hzN, hkN, hR, hts⟩ := hy91 h91
  rw [h91] at hc1
  have hbt : ∀ j, k + j < s.size → byt (s.extract k s.size) j = byt s (k + j) := fun j hj => byt_extract s k s.size j (by omega) (Nat.le_refl _)
  generalize s.extract k s.size = t at *
  obtain rfl : z = N + 1 := hzN
  have HR := hid hR
  have HBT := hid hbt
  have HTS := hid hts
  have HZB := hid hzb
  have HNS := hid hns
  clear h91 h91n hn91 hy91 hR hbt hts hzb hns HBA
  obtain ⟨q, hq⟩ : ∃ q, q = k + N := ⟨_, rfl⟩
  obtain ⟨k2, hk2⟩ : ∃ k2, k2 = k + 2 := ⟨_, rfl⟩
  have hqe : (k : Int) + ((N : Int) + 1) - 1 = (q : Int) := by omega
  have hq1 : (k : Int) + ((N : Int) + 1) = (q : Int) + 1 := by omega
  have hq2 : (q : Int) + 1 ≤ 9223372036854775807 := by have := HNS.out; omega
  have hq3 : ((q : Int) + 1) - 1 = (q : Int) := by omega
  have hk2e : (k : Int) + 2 = (k2 : Int) := by omega
  have hk263 : (k2 : Int) ≤ 9223372036854775807 := by have := HNS.out; omega
  have HQ := hid hq
  have HK2 := hid hk2
  obtain ⟨i0, hi0, hz0, hz1, hz2⟩ := info_parts info_int
  clear hq hk2 hqe
  go_enter Tryd.func12, Tryd.ntmps12
  go_wp2_with fail
  refine HRD.out.mono ?_
  rintro e w2 ⟨rfl, hb2⟩
  have hb3 := (Below.refl w2.heap.size w2).alloc (Nat.le_refl _) (.cells #[.int .i64 ((N + 1 : Nat) : Int), .bool true, .bool op, .int .u8 la] 27)
  have hr3 := Blk.new w2 27 #[.int .i64 ((N + 1 : Nat) : Int), .bool true, .bool op, .int .u8 la]
  have hc2 := (hb2.cell (p := ⟨b0, _, none⟩) hbl).trans hc1
  have hB3 := hb2.trans (hb3.mono hb2.size)
  have hc3 := (hb3.cell (p := ⟨b0, _, none⟩) (Nat.lt_of_lt_of_le hbl hb2.size)).trans hc2
  simp only [Int.natCast_add, Int.natCast_one] at hb3 hr3 hB3 hc3
  go_upto_region 2 with fail
  generalize w2.alloc (.cells #[.int .i64 ((N : Int) + 1), .bool true, .bool op, .int .u8 la] 27) = w3 at *
  have q0 := hr3.cell 0
  have q1 := hr3.cell 1
  simp only [List.getElem?_toArray, List.getElem?_cons_zero, List.getElem?_cons_succ] at q0 q1
  have hpl := hr3.lt
  have HB3 := hid hB3
  clear hb2 hb3 hr3 hc1 hc2 hB3
  go_upto_region 4 with fail
  clear q1 hc3
  have hv4 : (w3.alloc (.cells #[.int .i64 0] 3)).ownsRow w3.heap.size 3 1 (.slice (some ⟨w3.heap.size, 0, none⟩) 1 1) 1 [.int .i64 0] := ⟨rfl, .inr ⟨w3.heap.size, 1, #[.int .i64 0], rfl, Nat.le_refl _, heap_alloc_new w3 _, Nat.le_refl _, by decide, rfl, rfl⟩⟩
  have hB4 := (Below.refl w3.heap.size w3).alloc (Nat.le_refl _) (.cells #[.int .i64 0] 3)
  have HV4 := hid hv4
  have HB4 := hid hB4
  clear hv4 hB4
  go_wp2_with fail
  generalize w3.alloc (.cells #[.int .i64 0] 3) = w4 at *
  have hk2n : k2 ≤ q := by have := HQ.out; have := HK2.out; omega
  have hpl4 : w2.heap.size < w3.heap.size := hpl
  go_loopg [7, 8, 9] (q + 1) (fun kx s7 s8 s9 wr => ∃ (j b d i m : Nat) (A : Option Addr) (c : Nat) (cur : Int) (acc : List Int), s7 = .slice A (m + 1) c ∧ s8 = .int .i64 d ∧ s9 = .int .i64 i ∧ i ≤ q ∧ q + 1 - i ≤ kx ∧ d ≤ 5 ∧ Hid (i = k + j ∧ 2 ≤ b ∧ b ≤ j ∧ j ≤ N ∧ d = j - b) ∧ Hid (acc.length = m) ∧ m ≤ i ∧ Hid (DigP (t.extract b j)) ∧ Hid (cur = valB (t.extract b j)) ∧ 0 ≤ cur ∧ Hid (cur < 10 ^ d) ∧
    Hid (numsV s k = (numsL (piecesB (t.extract b N))).map (acc ++ ·)) ∧ Hid (wr.ownsRow w3.heap.size 3 1 (.slice A (m + 1) c) (m + 1) (intCells acc ++ [.int .i64 cur])) ∧ Hid (Below w3.heap.size w3 wr))
  case atStart =>
    refine ⟨2, 2, 0, k2, 0, some ⟨w3.heap.size, 0, none⟩, 1, 0, [], rfl, rfl, rfl, hk2n, by omega, by omega, ⟨by have := HK2.out; omega, by omega, by omega, hN2, rfl⟩, rfl, by omega, (val_empty t 2).1, (val_empty t 2).2.symm, by omega, by show (0 : Int) < 10 ^ 0; decide, ?_, HV4.out, HB4.out⟩
    show _ = _
    rw [HR.out]
    simp
  case round =>
    obtain ⟨j, b, d, i, m, A, c, cur, acc, rfl, rfl, rfl, hiq, hg, hd5, HP, HM, hmi, HD, HC, hcur0, HCL, HRR, HOWN, HB⟩ := hrel
    have qr := (HB.out.cell (p := ⟨w2.heap.size, 0, none⟩) hpl4).trans q0
    by_cases hlt : i < q
    · have hlt' : (i : Int) < (q : Int) := by omega
      have his : i < s.size := by have := HQ.out; have := HNS.out; omega
      have hcell := ((HB3.out.trans (HB.out.mono HB3.out.size)).cell (p := ⟨b0, _, none⟩) hbl).trans (bytes_cell HZB.out (i := i) his)
      obtain ⟨hp1, hp2, hp3, hp4, hp5⟩ := HP.out
      have hjN : j < N := by have := HQ.out; omega
      have hNt : N ≤ t.size := by have := HTS.out; have := HQ.out; omega
      rw [show byt s i = byt t j by rw [HBT.out j (by omega), ← hp1]] at hcell
      have hi1 : (i : Int) + 1 ≤ 9223372036854775807 := by omega
      have hin' : (i : Int) < (n : Int) := by have := HNS.out; omega
      have hsemi := nums_semi t b j N hp3 hjN hNt (by omega) HD.out
      have hsn := val_snoc t b j hp3 (by omega) HD.out
      have hbad := nums_bad _ (t.extract b N) (Nat.le_refl _) (j - b) (by rw [ByteArray.size_extract]; omega)
      rw [byt_extract t b N (j - b) (by omega) hNt, show b + (j - b) = j by omega] at hbad
      have hlong := nums_long t b j N hp3 hjN hNt
      generalize byt t j = x at *
      have HP2 := hid (show i = k + j ∧ 2 ≤ b ∧ b ≤ j ∧ j ≤ N ∧ d = j - b from HP.out)
      by_cases h59 : x = 59
      · subst h59
        have hR2 := HRR.out
        rw [hsemi rfl, Option.map_map] at hR2
        have hve := val_empty t (j + 1)
        have HR2 := hid hR2
        have HJN := hid hjN
        clear hsemi hsn hbad hlong hp1 hp2 hp3 hp4 hp5 hjN hNt hR2 his
        go_wp2_with (at_builtin; go_must (refine wpList_append_any _ rfl (.tmp 44) (.tmp 45) 29 rfl w3.heap.size 3 i0 (.int .i64 0) 1 8 Tryd.underlying29 hi0 hz0 hz1 hz2 rfl (by decide) _ (m + 1) (intCells acc ++ [.int .i64 cur]) rfl (HOWN.out.alloc _) _ (some ⟨wr.heap.size, 0, none⟩) 1 1 [.int .i64 0] rfl (reads_blk1 (Blk.new wr _ _)) (by simp [Value.oneCell']) (by have := HNS.out; unfold maxLen; omega) (by have := HNS.out; omega) (by have := HB.out.size; simp; omega) ?_); intro v' w6 ho6 hg6 hl6; have hb6 := (HB.out.alloc HB.out.size _).grown hg6 (by have := HB.out.size; simp; omega) (own_ge HOWN.out); obtain ⟨A6, c6, rfl⟩ := owns_slice ho6; have HO6 := hid ho6; have HB6 := hid hb6; clear ho6 hg6 hl6 hb6)
        go_roundg (q + 1 - (i + 1))
        case measure => omega
        case rel =>
          refine ⟨j + 1, j + 1, 0, i + 1, m + 1, A6, c6, 0, acc ++ [cur], rfl, rfl, rfl, by omega, Nat.le_refl _, by omega, ⟨by have := HP2.out; omega, by have := HP2.out; omega, Nat.le_refl _, by have := HJN.out; omega, by omega⟩, ?_, by omega, hve.1, hve.2.symm, by omega, by show (0 : Int) < 10 ^ 0; decide, ?_, ?_, HB6⟩
          · show _ = _
            rw [List.length_append, HM.out]; rfl
          · show _ = _
            rw [HR2.out, HC.out]
            congr 1
            funext r
            simp
          · show World.ownsRow _ _ _ _ _ _ _
            rw [intCells_snoc]
            exact HO6.out
      · have h59b : (x == 59) = false := by simpa using h59
        by_cases hdg : 48 ≤ x ∧ x ≤ 57
        · obtain ⟨g1, g2⟩ := hdg
          by_cases h5 : d < 5
          · have h5' : (d : Int) < 5 := by omega
            obtain ⟨e1, e2⟩ := hsn ⟨g1, g2⟩
            rw [← HC.out] at e2
            have hcb : cur < 10000 := by
              have h := HCL.out
              have hd : d = 0 ∨ d = 1 ∨ d = 2 ∨ d = 3 ∨ d = 4 := by omega
              rcases hd with rfl | rfl | rfl | rfl | rfl <;> omega
            have hpw : 10 * cur + (x - 48) < 10 ^ (d + 1) := by
              have h := HCL.out
              rw [Int.pow_succ]
              omega
            obtain ⟨A1, c1, hv, hx1, hx2, hcc⟩ := owns_form HOWN.out
            clear hx1 hx2
            injection hv with hA hA2 hcE
            subst hA hcE
            clear hA2
            obtain ⟨g, rfl, hgB, hgl, hcells⟩ := hcc (by omega)
            clear hcells
            have hcm : wr.cell? ⟨g, m, none⟩ = some (.int .i64 cur) := by
              rw [HOWN.out.cellAt m (by omega), List.getElem?_append_right (by simp [intCells, HM.out])]
              simp [intCells, HM.out]
            have hfz := HOWN.out.frozenAt m
            have hst := HOWN.out.stored m (.int .i64 (10 * cur + (x - 48)))
            have hset : (intCells acc ++ [Value.int .i64 cur]).set m (Value.int .i64 (10 * cur + (x - 48))) = intCells acc ++ [Value.int .i64 (10 * cur + (x - 48))] := by
              rw [List.set_append_right _ _ (by simp [intCells, HM.out])]
              simp [intCells, HM.out]
            rw [hset] at hst
            have HST := hid hst.1
            have HBS := hid (HB.out.setCell (p := ⟨g, m, none⟩) hgB (.int .i64 (10 * cur + (x - 48))))
            have HE1 := hid e1
            have HE2 := hid e2.symm
            have HPW := hid hpw
            have HJN := hid hjN
            have b7 : (d : Int) + 1 ≤ 9223372036854775807 := by omega
            obtain ⟨ym, hym⟩ : ∃ ym, ym = 10 * cur := ⟨_, rfl⟩
            obtain ⟨yd, hyd⟩ : ∃ yd, yd = x - 48 := ⟨_, rfl⟩
            obtain ⟨y, hy⟩ : ∃ y, y = 10 * cur + (x - 48) := ⟨_, rfl⟩
            have HY0 := hid (show 0 ≤ y by omega)
            rw [← hy] at HST HBS HE2 HPW
            have w8 : IntKind.u8.wrap yd = yd := wrap8 _ (by omega) (by omega)
            have a1 : 10 * cur = ym := hym.symm
            have a2 : x - 48 = yd := hyd.symm
            have a3 : ym + yd = y := by omega
            have b1 : -9223372036854775808 ≤ ym := by omega
            have b2 : ym ≤ 9223372036854775807 := by omega
            have b3 : -9223372036854775808 ≤ y := by omega
            have b4 : y ≤ 9223372036854775807 := by omega
            have b5 : 0 ≤ yd := by omega
            have b6 : yd ≤ 255 := by omega
            have b8 : yd ≤ 9223372036854775807 := by omega
            have b9 : -9223372036854775808 ≤ yd := by omega
            have hm64 : (m : Int) ≤ 9223372036854775806 := by omega
            clear hym hyd hy hcb HE1
            have HE1 := hid e1
            obtain ⟨Mx, hMx⟩ : ∃ Mx, Mx = m + 1 := ⟨_, rfl⟩
            have hMi : (Mx : Int) - 1 = (m : Int) := by omega
            have hMl : (m : Int) < (Mx : Int) := by omega
            have hMl2 : m < Mx := by omega
            have HMX := hid hMx
            rw [← hMx]
            clear hm64
            clear hsemi hsn hbad hlong hp1 hp2 hp3 hp4 hp5 hjN hNt his e1 e2 hpw hcc hst hset hMx
            go_wp2_with fail
            go_roundg (q + 1 - (i + 1))
            case measure => omega
            case rel => exact ⟨j + 1, b, d + 1, i + 1, m, _, _, y, acc, by rw [HMX.out], rfl, rfl, by omega, Nat.le_refl _, by omega, ⟨by have := HP2.out; omega, by have := HP2.out; omega, by have := HP2.out; omega, by have := HJN.out; omega, by have := HP2.out; omega⟩, HM, by omega, HE1, HE2, HY0.out, HPW, HRR, HST, HBS⟩
          · have h5' : ¬ (d : Int) < 5 := by omega
            have HE := hid (show numsV s k = none by rw [HRR.out, hlong (by omega) HD.out ⟨g1, g2⟩]; rfl)
            clear hsemi hsn hbad hlong hp1 hp2 hp3 hp4 hp5 hjN hNt his
            go_wp2_with fail
            go_ret2
            rw [HE.out]
            exact ⟨_, rfl, HB3.out.trans (HB.out.mono HB3.out.size), rfl, .inl ⟨rfl, rfl⟩⟩
        · have HE := hid (show numsV s k = none by rw [HRR.out, hbad h59 hdg]; rfl)
          clear hsemi hsn hbad hlong hp1 hp2 hp3 hp4 hp5 hjN hNt his
          by_cases g1 : 48 ≤ x
          · have g2 : ¬ x ≤ 57 := fun h => hdg ⟨g1, h⟩
            clear hdg
            go_wp2_with fail
            go_ret2
            rw [HE.out]
            exact ⟨_, rfl, HB3.out.trans (HB.out.mono HB3.out.size), rfl, .inl ⟨rfl, rfl⟩⟩
          · clear hdg
            go_wp2_with fail
            go_ret2
            rw [HE.out]
            exact ⟨_, rfl, HB3.out.trans (HB.out.mono HB3.out.size), rfl, .inl ⟨rfl, rfl⟩⟩
    · have hlt' : ¬ (i : Int) < (q : Int) := by omega
      obtain ⟨hp1, hp2, hp3, hp4, hp5⟩ := HP.out
      have hjN : j = N := by have := HQ.out; omega
      have hNt : N ≤ t.size := by have := HTS.out; have := HQ.out; have := HNS.out; omega
      have hd := HD.out
      have hc := HC.out
      rw [hjN] at hd hc
      have HE := hid (show numsV s k = some (acc ++ [cur]) by rw [HRR.out, nums_last t b N (by omega) hNt (by omega) hd, hc]; rfl)
      have hown := HOWN.out
      have HOW2 := hid (show wr.ownsRow w3.heap.size 3 1 (.slice A (m + 1) c) (acc ++ [cur]).length (intCells (acc ++ [cur])) by rw [List.length_append, HM.out, intCells_snoc]; exact hown)
      clear hp1 hp2 hp3 hp4 hp5 hjN hNt hd hc hown
      go_wp2_with fail
      go_ret2
      rw [HE.out]
      exact ⟨_, rfl, HB3.out.trans (HB.out.mono HB3.out.size), owns_base HOW2.out HB3.out.size⟩
end Go.Proofs.YtlopigkaibkblaaDoor
