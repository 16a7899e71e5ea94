/- Chapter 18: the document's mark at a place: the walk. -/
import Derived.Test.YtpkbmgpbagdalaaTagRT
import Derived.Test.YtpkbmgpbagdalaaTagRU
namespace Go.Proofs.Ytpkbmgpbagdalaa
open Go.RowKit
open Go.Lib (hid)
set_option linter.unusedVariables false

theorem isCom_ext (t : ByteArray) (h : 4 ≤ t.size) : ((t.extract 0 4).toList == comB.toList) = isCom t := by
  have h1 := isCom_iff t
  have h2 : ((t.extract 0 4).toList == comB.toList) = true ↔ 4 ≤ t.size ∧ byt t 0 = 60 ∧ byt t 1 = 33 ∧ byt t 2 = 45 ∧ byt t 3 = 45 := by
    rw [beq_iff_eq, str_toList_inj]
    have hb : ∀ j, j < 4 → byt (t.extract 0 4) j = byt t j := fun j hj => by rw [byt_extract t 0 4 j (by omega) h, Nat.zero_add]
    constructor
    · intro he
      refine ⟨h, ?_, ?_, ?_, ?_⟩
      · rw [← hb 0 (by omega), he]; rfl
      · rw [← hb 1 (by omega), he]; rfl
      · rw [← hb 2 (by omega), he]; rfl
      · rw [← hb 3 (by omega), he]; rfl
    · rintro ⟨_, a0, a1, a2, a3⟩
      apply ext_byt
      · rw [ByteArray.size_extract]; show min 4 t.size - 0 = 4; omega
      · intro j hj
        rw [ByteArray.size_extract] at hj
        rw [hb j (by omega)]
        have : j = 0 ∨ j = 1 ∨ j = 2 ∨ j = 3 := by omega
        rcases this with rfl | rfl | rfl | rfl
        · rw [a0]; rfl
        · rw [a1]; rfl
        · rw [a2]; rfl
        · rw [a3]; rfl
  exact Bool.eq_iff_iff.2 (h2.trans h1.symm)

set_option maxRecDepth 100000 in
set_option maxHeartbeats 20000000 in
theorem refhead_walk (b off n cap i : Nat) (s : ByteArray) (hn : n = s.size) (hi : i + 1 < n) (hcap : n ≤ cap) (hc63 : cap ≤ 9223372036854775807)
    (hm : n ≤ 1048576) (w : World) (hbB : b < w.heap.size) (hz : Lib.Bytes w b off s) (h60 : byt s i = 60) :
    Calls Try.prog 10 #[.slice (some ⟨b, off, none⟩) n cap, .int .i64 i] w fun e w' =>
      ∃ v, e = .returned (.tuple #[(headV (s.extract i s.size)).1.val v, .bool (headV (s.extract i s.size)).2]) ∧ Below w.heap.size w w' ∧ w'.ownsRow w.heap.size 43 2 v (headV (s.extract i s.size)).1.attrs.length (atCells (headV (s.extract i s.size)).1.attrs) := by
  have hsl := fun W => slice_tail b off n cap i (by omega) hcap W
  simp only [show offIf cap i off = off + i by unfold offIf; rw [if_neg (by omega)]] at hsl
  have hcell := bytes_cell hz (i := i) (by omega)
  rw [h60] at hcell
  have hge : ¬ ((n : Int) ≤ (i : Int)) := by omega
  have hn1 : ¬ ((n - i : Nat) : Int) = 1 := by omega
  have hn1b : (((n - i : Nat) : Int) == 1) = false := by simpa using hn1
  have HZ := hid hz
  have HN := hid hn
  clear hz hn hn1
  go_enter Try.func10, Try.ntmps10
  go_upto_region 6 with fail
  have hb1 := (Below.refl w.heap.size w).alloc (Nat.le_refl _) (.cells tag0 31)
  have hr1 := Blk.new w 31 tag0
  have hs2 : (w.alloc (.cells tag0 31)).heap.size = w.heap.size + 1 := by simp
  simp only [tag0] at hb1 hr1 hs2
  generalize w.alloc (.cells #[.int .i64 0, .int .i64 0, .string ⟨#[]⟩, .slice none 0 0, .bool false, .bool false] 31) = w3 at *
  have hzt : Lib.Bytes w3 b (off + i) (s.extract i s.size) := by
    apply bytes_of_byt
    intro j hj
    rw [World.cell?_of_block (hb1.block b hbB)]
    have := bytes_tail HN.out hcap HZ.out j (i := i) (by rw [ByteArray.size_extract] at hj; have := HN.out; omega)
    rwa [show offIf cap i off = off + i by unfold offIf; rw [if_neg (by omega)]] at this
  have ht : n - i = (s.extract i s.size).size := by rw [ByteArray.size_extract]; have := HN.out; omega
  generalize hte : s.extract i s.size = t at *
  have HTE := hid hte
  clear hte
  have hc1 := bytes_cell hzt (i := 1) (by omega)
  have hd1 := byt_nonneg t 1
  have HZT := hid hzt
  have HB1 := hid hb1
  have HR1 := hid hr1
  have HT := hid ht
  have r0 := hr1.cell 0
  have r1 := hr1.cell 1
  have r2 := hr1.cell 2
  have r3 := hr1.cell 3
  have r4 := hr1.cell 4
  have r5 := hr1.cell 5
  have frr := hr1.frozen
  simp only [List.getElem?_toArray, List.getElem?_cons_zero, List.getElem?_cons_succ] at r0 r1 r2 r3 r4 r5
  clear hzt hb1 hr1 hsl ht
  have hup := fun (k : Nat) (kd : Int) (e : ByteArray) (hk : k ≤ n - i) (he : 0 < e.size) (he2 : e.size ≤ 1000) =>
    refUpTo_any b (off + i) (n - i) (cap - i) k kd e t HT.out hk (by omega) (by omega) he he2 (by omega) w3 (by omega) HZT.out
  have hnm := fun (k : Nat) (kd : Int) (hk : k ≤ n - i) =>
    reftag_any b (off + i) (n - i) (cap - i) k kd t HT.out hk (by omega) (by omega) (by omega) w3 (by omega) HZT.out
  have hnm2 : ∀ (k : Nat) (kd : Int) (hk : k ≤ n - i), Calls Try.prog 23 #[.slice (some ⟨b, off + i, none⟩) (n - i) (cap - i), .int .i64 k, .int .i64 kd] w3 fun e w' =>
      ∃ v, e = .returned ((namedV t k kd).val v) ∧ Below w3.heap.size w3 w' ∧ w'.ownsRow w3.heap.size 43 2 v (namedV t k kd).attrs.length (atCells (namedV t k kd).attrs) := fun k kd hk => by
    have := hnm k kd hk
    rwa [refNamed_eq t k kd (by have := HT.out; omega)] at this
  have HUP := hid hup
  have HNM := hid hnm2
  clear hup hnm hnm2
  by_cases h4 : 4 ≤ n - i
  · have h4i : (4 : Int) ≤ ((n - i : Nat) : Int) := by omega
    have hsl4 : ∀ W, (Instr.slice 22 (.slice (some ⟨b, off + i, none⟩) (n - i) (cap - i)) none (some (.int .i64 4)) none).run Try.prog W = .ok (.slice (some ⟨b, off + i, none⟩) 4 (cap - i)) W := fun W => by
      rw [run_slice_h (P := Try.prog) W 22 _ (n - i) (cap - i) rfl .i64 4 (by omega) (by omega)]
      have hs : (sizeOf (Try.prog.elem 22)).run Try.prog W = .ok 1 W := by go_simp
      rw [hs]
      simp [Result.andThen, sliced, Addr.add]
    have hcv4 : (convert 22 9 (.slice (some ⟨b, off + i, none⟩) 4 (cap - i))).run Try.prog w3 = .ok (.string (t.extract 0 4)) w3 := by
      have := Lib.run_convert_window (P := Try.prog) w3 22 5 9 Try.underlying22 Try.underlying5 Try.underlying9 b (off + i) t HZT.out 0 4 (cap - i) (by have := HT.out; omega)
      simpa using this
    have hce := isCom_ext t (by have := HT.out; omega)
    unfold comB at hce
    generalize t.extract 0 4 = tx at *
    cases hcom : isCom t
    · have hnc : ¬ isCom t = true := by rw [hcom]; decide
      rw [hcom] at hce
      have hx1 : ¬ tx.toList = [60, 33, 45, 45] := fun e => by
        have : (tx.toList == (⟨#[60, 33, 45, 45]⟩ : ByteArray).toList) = true := by rw [e, Lib.toList_data]; rfl
        rw [this] at hce
        cases hce
      have hx2 : (tx.toList == [60, 33, 45, 45]) = false := by simpa using hx1
      clear hcom
      go_upto_region 8 with fail
      clear h4i hsl4 hcv4 hce hx1 hx2 h4 hn1b hge hcell h60 hd1 hs2
      by_cases h47 : byt t 1 = 47
      · by_cases h3 : 2 < n - i
        · have h2t : 2 < t.size := by have := HT.out; omega
          have hc2 := bytes_cell HZT.out (i := 2) h2t
          have h3i : (3 : Int) ≤ ((n - i : Nat) : Int) := by omega
          cases hlt : letterB (byt t 2)
          · have HE := hid (show headV t = (upToV t 2 3 gtE, true) by unfold headV; rw [if_neg hnc, if_neg (fun h => by rw [hlt] at h; exact absurd h.2.2 (by decide)), if_pos (Or.inr (Or.inr h47))])
            have HL2 := hid (show ∀ W, Calls Try.prog 22 #[.int .u8 (byt t 2)] W fun e w' => e = .returned (.bool false) ∧ w' = W by intro W; have := refletter_any (byt t 2) W; rwa [show letterB (byt t 2) = false from hlt] at this)
            rw [h47] at hc1
            have HL1 := hid (show ∀ W, Calls Try.prog 22 #[.int .u8 47] W fun e w' => e = .returned (.bool false) ∧ w' = W by intro W; have := refletter_any (47) W; rwa [show letterB (47) = false from rfl] at this)
            generalize byt t 2 = c2 at *
            clear hnc h47 hlt
            go_wp2_with fail
            refine (HL2.out _).mono ?_
            rintro e w3' ⟨rfl, hw⟩
            obtain rfl : w3 = w3' := hw.symm
            go_wp2_with fail
            refine (HL1.out _).mono ?_
            rintro e w3' ⟨rfl, hw⟩
            obtain rfl : w3 = w3' := hw.symm
            go_wp2_with fail
            refine (HUP.out 2 3 gtE (by omega) (by decide) (by decide)).mono ?_
            rintro e w4 ⟨rfl, hb4⟩
            have hat := upToV_attrs t 2 3 gtE
            generalize upToV t 2 3 gtE = M at hat HE ⊢
            obtain ⟨kd, sz, nm, at_, sg, cl⟩ := M
            simp only at hat
            subst hat
            simp only [Mk.val]
            have hr4 := HR1.out.below hb4 HR1.out.lt
            have q0 := hr4.cell 0
            have q1 := hr4.cell 1
            have q2 := hr4.cell 2
            have q3 := hr4.cell 3
            have q4 := hr4.cell 4
            have q5 := hr4.cell 5
            have frq := hr4.frozen
            simp only [List.getElem?_toArray, List.getElem?_cons_zero, List.getElem?_cons_succ] at q0 q1 q2 q3 q4 q5
            have HF := hid (set6_blkR (M := ⟨kd, sz, nm, [], sg, cl⟩) (v := .slice none 0 0) hr4)
            have HBF := hid (set6_below (M := ⟨kd, sz, nm, [], sg, cl⟩) (v := .slice none 0 0) (Nat.le_refl w.heap.size) (HB1.out.trans (hb4.mono HB1.out.size)))
            clear hr4 hb4 r0 r1 r2 r3 r4 r5 frr
            go_wp2_with fail
            (try simp only [Exit.inBlock, Exit.then])
            rw [HTE.out, HE.out]
            exact bodyPost_ret (results_row_tmp rfl _ _ w.heap.size _ _ _ _ rfl HF.out Try.underlying31 rfl (by kernel_rfl)) rfl ⟨_, rfl, HBF.out, rfl, .inl ⟨rfl, rfl⟩⟩
          · have HE := hid (show headV t = (namedV t 2 1, true) by unfold headV; rw [if_neg hnc, if_pos ⟨h47, h2t, hlt⟩])
            have HL2 := hid (show ∀ W, Calls Try.prog 22 #[.int .u8 (byt t 2)] W fun e w' => e = .returned (.bool true) ∧ w' = W by intro W; have := refletter_any (byt t 2) W; rwa [show letterB (byt t 2) = true from hlt] at this)
            rw [h47] at hc1
            generalize byt t 2 = c2 at *
            clear hnc h47 hlt
            go_wp2_with fail
            refine (HL2.out _).mono ?_
            rintro e w3' ⟨rfl, hw⟩
            obtain rfl : w3 = w3' := hw.symm
            go_wp2_with fail
            refine (HNM.out 2 1 (by omega)).mono ?_
            rintro e w4 ⟨v, rfl, hb4, ho4⟩
            generalize namedV t 2 1 = M at ho4 HE ⊢
            obtain ⟨a, c, rfl, _⟩ := owns_form ho4
            obtain ⟨kd, sz, nm, at_, sg, cl⟩ := M
            simp only [Mk.val]
            simp only at ho4
            have hr4 := HR1.out.below hb4 HR1.out.lt
            have q0 := hr4.cell 0
            have q1 := hr4.cell 1
            have q2 := hr4.cell 2
            have q3 := hr4.cell 3
            have q4 := hr4.cell 4
            have q5 := hr4.cell 5
            have frq := hr4.frozen
            simp only [List.getElem?_toArray, List.getElem?_cons_zero, List.getElem?_cons_succ] at q0 q1 q2 q3 q4 q5
            have HF := hid (set6_blkR (M := ⟨kd, sz, nm, at_, sg, cl⟩) (v := .slice a at_.length c) hr4)
            have HBF := hid (set6_below (M := ⟨kd, sz, nm, at_, sg, cl⟩) (v := .slice a at_.length c) (Nat.le_refl w.heap.size) (HB1.out.trans (hb4.mono HB1.out.size)))
            have HOF := hid (set6_ownR (M := ⟨kd, sz, nm, at_, sg, cl⟩) hr4 (owns_base ho4 HB1.out.size))
            clear hr4 hb4 ho4 r0 r1 r2 r3 r4 r5 frr
            go_wp2_with fail
            (try simp only [Exit.inBlock, Exit.then])
            rw [HTE.out, HE.out]
            exact bodyPost_ret (results_row_tmp rfl _ _ w.heap.size _ _ _ _ rfl HF.out Try.underlying31 rfl (by kernel_rfl)) rfl ⟨_, rfl, HBF.out, HOF.out⟩
        · have h2t : ¬ 2 < t.size := by have := HT.out; omega
          have h3i : ¬ (3 : Int) ≤ ((n - i : Nat) : Int) := by omega
          have HE := hid (show headV t = (upToV t 2 3 gtE, true) by unfold headV; rw [if_neg hnc, if_neg (fun h => h2t h.2.1), if_pos (Or.inr (Or.inr h47))])
          rw [h47] at hc1
          have HL1 := hid (show ∀ W, Calls Try.prog 22 #[.int .u8 47] W fun e w' => e = .returned (.bool false) ∧ w' = W by intro W; have := refletter_any (47) W; rwa [show letterB (47) = false from rfl] at this)
          clear hnc h47
          go_wp2_with fail
          refine (HL1.out _).mono ?_
          rintro e w3' ⟨rfl, hw⟩
          obtain rfl : w3 = w3' := hw.symm
          go_wp2_with fail
          refine (HUP.out 2 3 gtE (by omega) (by decide) (by decide)).mono ?_
          rintro e w4 ⟨rfl, hb4⟩
          have hat := upToV_attrs t 2 3 gtE
          generalize upToV t 2 3 gtE = M at hat HE ⊢
          obtain ⟨kd, sz, nm, at_, sg, cl⟩ := M
          simp only at hat
          subst hat
          simp only [Mk.val]
          have hr4 := HR1.out.below hb4 HR1.out.lt
          have q0 := hr4.cell 0
          have q1 := hr4.cell 1
          have q2 := hr4.cell 2
          have q3 := hr4.cell 3
          have q4 := hr4.cell 4
          have q5 := hr4.cell 5
          have frq := hr4.frozen
          simp only [List.getElem?_toArray, List.getElem?_cons_zero, List.getElem?_cons_succ] at q0 q1 q2 q3 q4 q5
          have HF := hid (set6_blkR (M := ⟨kd, sz, nm, [], sg, cl⟩) (v := .slice none 0 0) hr4)
          have HBF := hid (set6_below (M := ⟨kd, sz, nm, [], sg, cl⟩) (v := .slice none 0 0) (Nat.le_refl w.heap.size) (HB1.out.trans (hb4.mono HB1.out.size)))
          clear hr4 hb4 r0 r1 r2 r3 r4 r5 frr
          go_wp2_with fail
          (try simp only [Exit.inBlock, Exit.then])
          rw [HTE.out, HE.out]
          exact bodyPost_ret (results_row_tmp rfl _ _ w.heap.size _ _ _ _ rfl HF.out Try.underlying31 rfl (by kernel_rfl)) rfl ⟨_, rfl, HBF.out, rfl, .inl ⟨rfl, rfl⟩⟩
      · have b47 : (byt t 1 == 47) = false := by simpa using h47
        cases hlt : letterB (byt t 1)
        · by_cases h33 : byt t 1 = 33
          · have HE := hid (show headV t = (upToV t 2 3 gtE, true) by unfold headV; rw [if_neg hnc, if_neg (fun h => h47 h.1), if_pos (Or.inl h33)])
            rw [h33] at hc1
            have HL1 := hid (show ∀ W, Calls Try.prog 22 #[.int .u8 33] W fun e w' => e = .returned (.bool false) ∧ w' = W by intro W; have := refletter_any (33) W; rwa [show letterB (33) = false from rfl] at this)
            clear hnc h47 hlt b47 h33 
            go_wp2_with fail
            refine (HL1.out _).mono ?_
            rintro e w3' ⟨rfl, hw⟩
            obtain rfl : w3 = w3' := hw.symm
            go_wp2_with fail
            refine (HUP.out 2 3 gtE (by omega) (by decide) (by decide)).mono ?_
            rintro e w4 ⟨rfl, hb4⟩
            have hat := upToV_attrs t 2 3 gtE
            generalize upToV t 2 3 gtE = M at hat HE ⊢
            obtain ⟨kd, sz, nm, at_, sg, cl⟩ := M
            simp only at hat
            subst hat
            simp only [Mk.val]
            have hr4 := HR1.out.below hb4 HR1.out.lt
            have q0 := hr4.cell 0
            have q1 := hr4.cell 1
            have q2 := hr4.cell 2
            have q3 := hr4.cell 3
            have q4 := hr4.cell 4
            have q5 := hr4.cell 5
            have frq := hr4.frozen
            simp only [List.getElem?_toArray, List.getElem?_cons_zero, List.getElem?_cons_succ] at q0 q1 q2 q3 q4 q5
            have HF := hid (set6_blkR (M := ⟨kd, sz, nm, [], sg, cl⟩) (v := .slice none 0 0) hr4)
            have HBF := hid (set6_below (M := ⟨kd, sz, nm, [], sg, cl⟩) (v := .slice none 0 0) (Nat.le_refl w.heap.size) (HB1.out.trans (hb4.mono HB1.out.size)))
            clear hr4 hb4 r0 r1 r2 r3 r4 r5 frr
            go_wp2_with fail
            (try simp only [Exit.inBlock, Exit.then])
            rw [HTE.out, HE.out]
            exact bodyPost_ret (results_row_tmp rfl _ _ w.heap.size _ _ _ _ rfl HF.out Try.underlying31 rfl (by kernel_rfl)) rfl ⟨_, rfl, HBF.out, rfl, .inl ⟨rfl, rfl⟩⟩
          have b33 : (byt t 1 == 33) = false := by simpa using h33
          by_cases h63 : byt t 1 = 63
          · have HE := hid (show headV t = (upToV t 2 3 gtE, true) by unfold headV; rw [if_neg hnc, if_neg (fun h => h47 h.1), if_pos (Or.inr (Or.inl h63))])
            rw [h63] at hc1
            have HL1 := hid (show ∀ W, Calls Try.prog 22 #[.int .u8 63] W fun e w' => e = .returned (.bool false) ∧ w' = W by intro W; have := refletter_any (63) W; rwa [show letterB (63) = false from rfl] at this)
            clear hnc h47 hlt b47 h33 h63 b33
            go_wp2_with fail
            refine (HL1.out _).mono ?_
            rintro e w3' ⟨rfl, hw⟩
            obtain rfl : w3 = w3' := hw.symm
            go_wp2_with fail
            refine (HUP.out 2 3 gtE (by omega) (by decide) (by decide)).mono ?_
            rintro e w4 ⟨rfl, hb4⟩
            have hat := upToV_attrs t 2 3 gtE
            generalize upToV t 2 3 gtE = M at hat HE ⊢
            obtain ⟨kd, sz, nm, at_, sg, cl⟩ := M
            simp only at hat
            subst hat
            simp only [Mk.val]
            have hr4 := HR1.out.below hb4 HR1.out.lt
            have q0 := hr4.cell 0
            have q1 := hr4.cell 1
            have q2 := hr4.cell 2
            have q3 := hr4.cell 3
            have q4 := hr4.cell 4
            have q5 := hr4.cell 5
            have frq := hr4.frozen
            simp only [List.getElem?_toArray, List.getElem?_cons_zero, List.getElem?_cons_succ] at q0 q1 q2 q3 q4 q5
            have HF := hid (set6_blkR (M := ⟨kd, sz, nm, [], sg, cl⟩) (v := .slice none 0 0) hr4)
            have HBF := hid (set6_below (M := ⟨kd, sz, nm, [], sg, cl⟩) (v := .slice none 0 0) (Nat.le_refl w.heap.size) (HB1.out.trans (hb4.mono HB1.out.size)))
            clear hr4 hb4 r0 r1 r2 r3 r4 r5 frr
            go_wp2_with fail
            (try simp only [Exit.inBlock, Exit.then])
            rw [HTE.out, HE.out]
            exact bodyPost_ret (results_row_tmp rfl _ _ w.heap.size _ _ _ _ rfl HF.out Try.underlying31 rfl (by kernel_rfl)) rfl ⟨_, rfl, HBF.out, rfl, .inl ⟨rfl, rfl⟩⟩
          have b63 : (byt t 1 == 63) = false := by simpa using h63
          have HE := hid (show headV t = (mk0, false) by unfold headV; rw [if_neg hnc, if_neg (fun h => h47 h.1), if_neg (fun h => h.elim h33 (fun h => h.elim h63 h47)), if_neg (by rw [hlt]; decide)])
          have HL1 := hid (show ∀ W, Calls Try.prog 22 #[.int .u8 (byt t 1)] W fun e w' => e = .returned (.bool false) ∧ w' = W by intro W; have := refletter_any (byt t 1) W; rwa [show letterB (byt t 1) = false from hlt] at this)
          generalize byt t 1 = c1 at *
          clear hnc h47 h33 h63 hlt
          have HF := hid (set6_blkR (M := mk0) (v := .slice none 0 0) HR1.out)
          have HBF := hid (set6_below (M := mk0) (v := .slice none 0 0) (Nat.le_refl w.heap.size) HB1.out)
          go_wp2_with fail
          refine (HL1.out _).mono ?_
          rintro e w3' ⟨rfl, hw⟩
          obtain rfl : w3 = w3' := hw.symm
          go_wp2_with fail
          (try simp only [Exit.inBlock, Exit.then])
          rw [HTE.out, HE.out]
          exact bodyPost_ret (results_row_tmp rfl _ _ w.heap.size _ _ _ _ rfl HF.out Try.underlying31 rfl (by kernel_rfl)) rfl ⟨_, rfl, HBF.out, rfl, .inl ⟨rfl, rfl⟩⟩
        · have HE := hid (show headV t = (namedV t 1 0, true) by
              have hx : ¬ (byt t 1 = 33 ∨ byt t 1 = 63 ∨ byt t 1 = 47) := fun h => by rcases h with h | h | h <;> (rw [h] at hlt; exact absurd hlt (by decide))
              unfold headV; rw [if_neg hnc, if_neg (fun h => h47 h.1), if_neg hx, if_pos hlt])
          have HL1 := hid (show ∀ W, Calls Try.prog 22 #[.int .u8 (byt t 1)] W fun e w' => e = .returned (.bool true) ∧ w' = W by intro W; have := refletter_any (byt t 1) W; rwa [show letterB (byt t 1) = true from hlt] at this)
          generalize byt t 1 = c1 at *
          clear hnc h47 hlt
          go_wp2_with fail
          refine (HL1.out _).mono ?_
          rintro e w3' ⟨rfl, hw⟩
          obtain rfl : w3 = w3' := hw.symm
          go_wp2_with fail
          refine (HNM.out 1 0 (by omega)).mono ?_
          rintro e w4 ⟨v, rfl, hb4, ho4⟩
          generalize namedV t 1 0 = M at ho4 HE ⊢
          obtain ⟨a, c, rfl, _⟩ := owns_form ho4
          obtain ⟨kd, sz, nm, at_, sg, cl⟩ := M
          simp only [Mk.val]
          simp only at ho4
          have hr4 := HR1.out.below hb4 HR1.out.lt
          have q0 := hr4.cell 0
          have q1 := hr4.cell 1
          have q2 := hr4.cell 2
          have q3 := hr4.cell 3
          have q4 := hr4.cell 4
          have q5 := hr4.cell 5
          have frq := hr4.frozen
          simp only [List.getElem?_toArray, List.getElem?_cons_zero, List.getElem?_cons_succ] at q0 q1 q2 q3 q4 q5
          have HF := hid (set6_blkR (M := ⟨kd, sz, nm, at_, sg, cl⟩) (v := .slice a at_.length c) hr4)
          have HBF := hid (set6_below (M := ⟨kd, sz, nm, at_, sg, cl⟩) (v := .slice a at_.length c) (Nat.le_refl w.heap.size) (HB1.out.trans (hb4.mono HB1.out.size)))
          have HOF := hid (set6_ownR (M := ⟨kd, sz, nm, at_, sg, cl⟩) hr4 (owns_base ho4 HB1.out.size))
          clear hr4 hb4 ho4 r0 r1 r2 r3 r4 r5 frr
          go_wp2_with fail
          (try simp only [Exit.inBlock, Exit.then])
          rw [HTE.out, HE.out]
          exact bodyPost_ret (results_row_tmp rfl _ _ w.heap.size _ _ _ _ rfl HF.out Try.underlying31 rfl (by kernel_rfl)) rfl ⟨_, rfl, HBF.out, HOF.out⟩
    · have HE := hid (show headV t = (upToV t 4 2 comE, true) by unfold headV; rw [if_pos hcom])
      rw [hcom] at hce
      obtain rfl : tx = ⟨#[60, 33, 45, 45]⟩ := str_toList_inj.1 (eq_of_beq hce)
      clear hcom hce
      go_wp2_with fail
      refine (HUP.out 4 2 comE h4 (by decide) (by decide)).mono ?_
      rintro e w4 ⟨rfl, hb4⟩
      have hat := upToV_attrs t 4 2 comE
      generalize upToV t 4 2 comE = M at hat HE ⊢
      obtain ⟨kd, sz, nm, at_, sg, cl⟩ := M
      simp only at hat
      subst hat
      simp only [Mk.val]
      have hr4 := HR1.out.below hb4 HR1.out.lt
      have q0 := hr4.cell 0
      have q1 := hr4.cell 1
      have q2 := hr4.cell 2
      have q3 := hr4.cell 3
      have q4 := hr4.cell 4
      have q5 := hr4.cell 5
      have frq := hr4.frozen
      simp only [List.getElem?_toArray, List.getElem?_cons_zero, List.getElem?_cons_succ] at q0 q1 q2 q3 q4 q5
      have HF := hid (set6_blkR (M := ⟨kd, sz, nm, [], sg, cl⟩) (v := .slice none 0 0) hr4)
      have HBF := hid (set6_below (M := ⟨kd, sz, nm, [], sg, cl⟩) (v := .slice none 0 0) (Nat.le_refl w.heap.size) (HB1.out.trans (hb4.mono HB1.out.size)))
      clear hr4 hb4 r0 r1 r2 r3 r4 r5 frr
      go_wp2_with fail
      (try simp only [Exit.inBlock, Exit.then])
      rw [HTE.out, HE.out]
      exact bodyPost_ret (results_row_tmp rfl _ _ w.heap.size _ _ _ _ rfl HF.out Try.underlying31 rfl (by kernel_rfl)) rfl ⟨_, rfl, HBF.out, rfl, .inl ⟨rfl, rfl⟩⟩
  · have h4i : ¬ (4 : Int) ≤ ((n - i : Nat) : Int) := by omega
    have hnc : ¬ isCom t = true := fun h => h4 (by have := ((isCom_iff t).1 h).1; have := HT.out; omega)
    go_upto_region 8 with fail
    clear h4i h4 hn1b hge hcell h60 hd1 hs2
    by_cases h47 : byt t 1 = 47
    · by_cases h3 : 2 < n - i
      · have h2t : 2 < t.size := by have := HT.out; omega
        have hc2 := bytes_cell HZT.out (i := 2) h2t
        have h3i : (3 : Int) ≤ ((n - i : Nat) : Int) := by omega
        cases hlt : letterB (byt t 2)
        · have HE := hid (show headV t = (upToV t 2 3 gtE, true) by unfold headV; rw [if_neg hnc, if_neg (fun h => by rw [hlt] at h; exact absurd h.2.2 (by decide)), if_pos (Or.inr (Or.inr h47))])
          have HL2 := hid (show ∀ W, Calls Try.prog 22 #[.int .u8 (byt t 2)] W fun e w' => e = .returned (.bool false) ∧ w' = W by intro W; have := refletter_any (byt t 2) W; rwa [show letterB (byt t 2) = false from hlt] at this)
          rw [h47] at hc1
          have HL1 := hid (show ∀ W, Calls Try.prog 22 #[.int .u8 47] W fun e w' => e = .returned (.bool false) ∧ w' = W by intro W; have := refletter_any (47) W; rwa [show letterB (47) = false from rfl] at this)
          generalize byt t 2 = c2 at *
          clear hnc h47 hlt
          go_wp2_with fail
          refine (HL2.out _).mono ?_
          rintro e w3' ⟨rfl, hw⟩
          obtain rfl : w3 = w3' := hw.symm
          go_wp2_with fail
          refine (HL1.out _).mono ?_
          rintro e w3' ⟨rfl, hw⟩
          obtain rfl : w3 = w3' := hw.symm
          go_wp2_with fail
          refine (HUP.out 2 3 gtE (by omega) (by decide) (by decide)).mono ?_
          rintro e w4 ⟨rfl, hb4⟩
          have hat := upToV_attrs t 2 3 gtE
          generalize upToV t 2 3 gtE = M at hat HE ⊢
          obtain ⟨kd, sz, nm, at_, sg, cl⟩ := M
          simp only at hat
          subst hat
          simp only [Mk.val]
          have hr4 := HR1.out.below hb4 HR1.out.lt
          have q0 := hr4.cell 0
          have q1 := hr4.cell 1
          have q2 := hr4.cell 2
          have q3 := hr4.cell 3
          have q4 := hr4.cell 4
          have q5 := hr4.cell 5
          have frq := hr4.frozen
          simp only [List.getElem?_toArray, List.getElem?_cons_zero, List.getElem?_cons_succ] at q0 q1 q2 q3 q4 q5
          have HF := hid (set6_blkR (M := ⟨kd, sz, nm, [], sg, cl⟩) (v := .slice none 0 0) hr4)
          have HBF := hid (set6_below (M := ⟨kd, sz, nm, [], sg, cl⟩) (v := .slice none 0 0) (Nat.le_refl w.heap.size) (HB1.out.trans (hb4.mono HB1.out.size)))
          clear hr4 hb4 r0 r1 r2 r3 r4 r5 frr
          go_wp2_with fail
          (try simp only [Exit.inBlock, Exit.then])
          rw [HTE.out, HE.out]
          exact bodyPost_ret (results_row_tmp rfl _ _ w.heap.size _ _ _ _ rfl HF.out Try.underlying31 rfl (by kernel_rfl)) rfl ⟨_, rfl, HBF.out, rfl, .inl ⟨rfl, rfl⟩⟩
        · have HE := hid (show headV t = (namedV t 2 1, true) by unfold headV; rw [if_neg hnc, if_pos ⟨h47, h2t, hlt⟩])
          have HL2 := hid (show ∀ W, Calls Try.prog 22 #[.int .u8 (byt t 2)] W fun e w' => e = .returned (.bool true) ∧ w' = W by intro W; have := refletter_any (byt t 2) W; rwa [show letterB (byt t 2) = true from hlt] at this)
          rw [h47] at hc1
          generalize byt t 2 = c2 at *
          clear hnc h47 hlt
          go_wp2_with fail
          refine (HL2.out _).mono ?_
          rintro e w3' ⟨rfl, hw⟩
          obtain rfl : w3 = w3' := hw.symm
          go_wp2_with fail
          refine (HNM.out 2 1 (by omega)).mono ?_
          rintro e w4 ⟨v, rfl, hb4, ho4⟩
          generalize namedV t 2 1 = M at ho4 HE ⊢
          obtain ⟨a, c, rfl, _⟩ := owns_form ho4
          obtain ⟨kd, sz, nm, at_, sg, cl⟩ := M
          simp only [Mk.val]
          simp only at ho4
          have hr4 := HR1.out.below hb4 HR1.out.lt
          have q0 := hr4.cell 0
          have q1 := hr4.cell 1
          have q2 := hr4.cell 2
          have q3 := hr4.cell 3
          have q4 := hr4.cell 4
          have q5 := hr4.cell 5
          have frq := hr4.frozen
          simp only [List.getElem?_toArray, List.getElem?_cons_zero, List.getElem?_cons_succ] at q0 q1 q2 q3 q4 q5
          have HF := hid (set6_blkR (M := ⟨kd, sz, nm, at_, sg, cl⟩) (v := .slice a at_.length c) hr4)
          have HBF := hid (set6_below (M := ⟨kd, sz, nm, at_, sg, cl⟩) (v := .slice a at_.length c) (Nat.le_refl w.heap.size) (HB1.out.trans (hb4.mono HB1.out.size)))
          have HOF := hid (set6_ownR (M := ⟨kd, sz, nm, at_, sg, cl⟩) hr4 (owns_base ho4 HB1.out.size))
          clear hr4 hb4 ho4 r0 r1 r2 r3 r4 r5 frr
          go_wp2_with fail
          (try simp only [Exit.inBlock, Exit.then])
          rw [HTE.out, HE.out]
          exact bodyPost_ret (results_row_tmp rfl _ _ w.heap.size _ _ _ _ rfl HF.out Try.underlying31 rfl (by kernel_rfl)) rfl ⟨_, rfl, HBF.out, HOF.out⟩
      · have h2t : ¬ 2 < t.size := by have := HT.out; omega
        have h3i : ¬ (3 : Int) ≤ ((n - i : Nat) : Int) := by omega
        have HE := hid (show headV t = (upToV t 2 3 gtE, true) by unfold headV; rw [if_neg hnc, if_neg (fun h => h2t h.2.1), if_pos (Or.inr (Or.inr h47))])
        rw [h47] at hc1
        have HL1 := hid (show ∀ W, Calls Try.prog 22 #[.int .u8 47] W fun e w' => e = .returned (.bool false) ∧ w' = W by intro W; have := refletter_any (47) W; rwa [show letterB (47) = false from rfl] at this)
        clear hnc h47
        go_wp2_with fail
        refine (HL1.out _).mono ?_
        rintro e w3' ⟨rfl, hw⟩
        obtain rfl : w3 = w3' := hw.symm
        go_wp2_with fail
        refine (HUP.out 2 3 gtE (by omega) (by decide) (by decide)).mono ?_
        rintro e w4 ⟨rfl, hb4⟩
        have hat := upToV_attrs t 2 3 gtE
        generalize upToV t 2 3 gtE = M at hat HE ⊢
        obtain ⟨kd, sz, nm, at_, sg, cl⟩ := M
        simp only at hat
        subst hat
        simp only [Mk.val]
        have hr4 := HR1.out.below hb4 HR1.out.lt
        have q0 := hr4.cell 0
        have q1 := hr4.cell 1
        have q2 := hr4.cell 2
        have q3 := hr4.cell 3
        have q4 := hr4.cell 4
        have q5 := hr4.cell 5
        have frq := hr4.frozen
        simp only [List.getElem?_toArray, List.getElem?_cons_zero, List.getElem?_cons_succ] at q0 q1 q2 q3 q4 q5
        have HF := hid (set6_blkR (M := ⟨kd, sz, nm, [], sg, cl⟩) (v := .slice none 0 0) hr4)
        have HBF := hid (set6_below (M := ⟨kd, sz, nm, [], sg, cl⟩) (v := .slice none 0 0) (Nat.le_refl w.heap.size) (HB1.out.trans (hb4.mono HB1.out.size)))
        clear hr4 hb4 r0 r1 r2 r3 r4 r5 frr
        go_wp2_with fail
        (try simp only [Exit.inBlock, Exit.then])
        rw [HTE.out, HE.out]
        exact bodyPost_ret (results_row_tmp rfl _ _ w.heap.size _ _ _ _ rfl HF.out Try.underlying31 rfl (by kernel_rfl)) rfl ⟨_, rfl, HBF.out, rfl, .inl ⟨rfl, rfl⟩⟩
    · have b47 : (byt t 1 == 47) = false := by simpa using h47
      cases hlt : letterB (byt t 1)
      · by_cases h33 : byt t 1 = 33
        · have HE := hid (show headV t = (upToV t 2 3 gtE, true) by unfold headV; rw [if_neg hnc, if_neg (fun h => h47 h.1), if_pos (Or.inl h33)])
          rw [h33] at hc1
          have HL1 := hid (show ∀ W, Calls Try.prog 22 #[.int .u8 33] W fun e w' => e = .returned (.bool false) ∧ w' = W by intro W; have := refletter_any (33) W; rwa [show letterB (33) = false from rfl] at this)
          clear hnc h47 hlt b47 h33 
          go_wp2_with fail
          refine (HL1.out _).mono ?_
          rintro e w3' ⟨rfl, hw⟩
          obtain rfl : w3 = w3' := hw.symm
          go_wp2_with fail
          refine (HUP.out 2 3 gtE (by omega) (by decide) (by decide)).mono ?_
          rintro e w4 ⟨rfl, hb4⟩
          have hat := upToV_attrs t 2 3 gtE
          generalize upToV t 2 3 gtE = M at hat HE ⊢
          obtain ⟨kd, sz, nm, at_, sg, cl⟩ := M
          simp only at hat
          subst hat
          simp only [Mk.val]
          have hr4 := HR1.out.below hb4 HR1.out.lt
          have q0 := hr4.cell 0
          have q1 := hr4.cell 1
          have q2 := hr4.cell 2
          have q3 := hr4.cell 3
          have q4 := hr4.cell 4
          have q5 := hr4.cell 5
          have frq := hr4.frozen
          simp only [List.getElem?_toArray, List.getElem?_cons_zero, List.getElem?_cons_succ] at q0 q1 q2 q3 q4 q5
          have HF := hid (set6_blkR (M := ⟨kd, sz, nm, [], sg, cl⟩) (v := .slice none 0 0) hr4)
          have HBF := hid (set6_below (M := ⟨kd, sz, nm, [], sg, cl⟩) (v := .slice none 0 0) (Nat.le_refl w.heap.size) (HB1.out.trans (hb4.mono HB1.out.size)))
          clear hr4 hb4 r0 r1 r2 r3 r4 r5 frr
          go_wp2_with fail
          (try simp only [Exit.inBlock, Exit.then])
          rw [HTE.out, HE.out]
          exact bodyPost_ret (results_row_tmp rfl _ _ w.heap.size _ _ _ _ rfl HF.out Try.underlying31 rfl (by kernel_rfl)) rfl ⟨_, rfl, HBF.out, rfl, .inl ⟨rfl, rfl⟩⟩
        have b33 : (byt t 1 == 33) = false := by simpa using h33
        by_cases h63 : byt t 1 = 63
        · have HE := hid (show headV t = (upToV t 2 3 gtE, true) by unfold headV; rw [if_neg hnc, if_neg (fun h => h47 h.1), if_pos (Or.inr (Or.inl h63))])
          rw [h63] at hc1
          have HL1 := hid (show ∀ W, Calls Try.prog 22 #[.int .u8 63] W fun e w' => e = .returned (.bool false) ∧ w' = W by intro W; have := refletter_any (63) W; rwa [show letterB (63) = false from rfl] at this)
          clear hnc h47 hlt b47 h33 h63 b33
          go_wp2_with fail
          refine (HL1.out _).mono ?_
          rintro e w3' ⟨rfl, hw⟩
          obtain rfl : w3 = w3' := hw.symm
          go_wp2_with fail
          refine (HUP.out 2 3 gtE (by omega) (by decide) (by decide)).mono ?_
          rintro e w4 ⟨rfl, hb4⟩
          have hat := upToV_attrs t 2 3 gtE
          generalize upToV t 2 3 gtE = M at hat HE ⊢
          obtain ⟨kd, sz, nm, at_, sg, cl⟩ := M
          simp only at hat
          subst hat
          simp only [Mk.val]
          have hr4 := HR1.out.below hb4 HR1.out.lt
          have q0 := hr4.cell 0
          have q1 := hr4.cell 1
          have q2 := hr4.cell 2
          have q3 := hr4.cell 3
          have q4 := hr4.cell 4
          have q5 := hr4.cell 5
          have frq := hr4.frozen
          simp only [List.getElem?_toArray, List.getElem?_cons_zero, List.getElem?_cons_succ] at q0 q1 q2 q3 q4 q5
          have HF := hid (set6_blkR (M := ⟨kd, sz, nm, [], sg, cl⟩) (v := .slice none 0 0) hr4)
          have HBF := hid (set6_below (M := ⟨kd, sz, nm, [], sg, cl⟩) (v := .slice none 0 0) (Nat.le_refl w.heap.size) (HB1.out.trans (hb4.mono HB1.out.size)))
          clear hr4 hb4 r0 r1 r2 r3 r4 r5 frr
          go_wp2_with fail
          (try simp only [Exit.inBlock, Exit.then])
          rw [HTE.out, HE.out]
          exact bodyPost_ret (results_row_tmp rfl _ _ w.heap.size _ _ _ _ rfl HF.out Try.underlying31 rfl (by kernel_rfl)) rfl ⟨_, rfl, HBF.out, rfl, .inl ⟨rfl, rfl⟩⟩
        have b63 : (byt t 1 == 63) = false := by simpa using h63
        have HE := hid (show headV t = (mk0, false) by unfold headV; rw [if_neg hnc, if_neg (fun h => h47 h.1), if_neg (fun h => h.elim h33 (fun h => h.elim h63 h47)), if_neg (by rw [hlt]; decide)])
        have HL1 := hid (show ∀ W, Calls Try.prog 22 #[.int .u8 (byt t 1)] W fun e w' => e = .returned (.bool false) ∧ w' = W by intro W; have := refletter_any (byt t 1) W; rwa [show letterB (byt t 1) = false from hlt] at this)
        generalize byt t 1 = c1 at *
        clear hnc h47 h33 h63 hlt
        have HF := hid (set6_blkR (M := mk0) (v := .slice none 0 0) HR1.out)
        have HBF := hid (set6_below (M := mk0) (v := .slice none 0 0) (Nat.le_refl w.heap.size) HB1.out)
        go_wp2_with fail
        refine (HL1.out _).mono ?_
        rintro e w3' ⟨rfl, hw⟩
        obtain rfl : w3 = w3' := hw.symm
        go_wp2_with fail
        (try simp only [Exit.inBlock, Exit.then])
        rw [HTE.out, HE.out]
        exact bodyPost_ret (results_row_tmp rfl _ _ w.heap.size _ _ _ _ rfl HF.out Try.underlying31 rfl (by kernel_rfl)) rfl ⟨_, rfl, HBF.out, rfl, .inl ⟨rfl, rfl⟩⟩
      · have HE := hid (show headV t = (namedV t 1 0, true) by
            have hx : ¬ (byt t 1 = 33 ∨ byt t 1 = 63 ∨ byt t 1 = 47) := fun h => by rcases h with h | h | h <;> (rw [h] at hlt; exact absurd hlt (by decide))
            unfold headV; rw [if_neg hnc, if_neg (fun h => h47 h.1), if_neg hx, if_pos hlt])
        have HL1 := hid (show ∀ W, Calls Try.prog 22 #[.int .u8 (byt t 1)] W fun e w' => e = .returned (.bool true) ∧ w' = W by intro W; have := refletter_any (byt t 1) W; rwa [show letterB (byt t 1) = true from hlt] at this)
        generalize byt t 1 = c1 at *
        clear hnc h47 hlt
        go_wp2_with fail
        refine (HL1.out _).mono ?_
        rintro e w3' ⟨rfl, hw⟩
        obtain rfl : w3 = w3' := hw.symm
        go_wp2_with fail
        refine (HNM.out 1 0 (by omega)).mono ?_
        rintro e w4 ⟨v, rfl, hb4, ho4⟩
        generalize namedV t 1 0 = M at ho4 HE ⊢
        obtain ⟨a, c, rfl, _⟩ := owns_form ho4
        obtain ⟨kd, sz, nm, at_, sg, cl⟩ := M
        simp only [Mk.val]
        simp only at ho4
        have hr4 := HR1.out.below hb4 HR1.out.lt
        have q0 := hr4.cell 0
        have q1 := hr4.cell 1
        have q2 := hr4.cell 2
        have q3 := hr4.cell 3
        have q4 := hr4.cell 4
        have q5 := hr4.cell 5
        have frq := hr4.frozen
        simp only [List.getElem?_toArray, List.getElem?_cons_zero, List.getElem?_cons_succ] at q0 q1 q2 q3 q4 q5
        have HF := hid (set6_blkR (M := ⟨kd, sz, nm, at_, sg, cl⟩) (v := .slice a at_.length c) hr4)
        have HBF := hid (set6_below (M := ⟨kd, sz, nm, at_, sg, cl⟩) (v := .slice a at_.length c) (Nat.le_refl w.heap.size) (HB1.out.trans (hb4.mono HB1.out.size)))
        have HOF := hid (set6_ownR (M := ⟨kd, sz, nm, at_, sg, cl⟩) hr4 (owns_base ho4 HB1.out.size))
        clear hr4 hb4 ho4 r0 r1 r2 r3 r4 r5 frr
        go_wp2_with fail
        (try simp only [Exit.inBlock, Exit.then])
        rw [HTE.out, HE.out]
        exact bodyPost_ret (results_row_tmp rfl _ _ w.heap.size _ _ _ _ rfl HF.out Try.underlying31 rfl (by kernel_rfl)) rfl ⟨_, rfl, HBF.out, HOF.out⟩
end Go.Proofs.Ytpkbmgpbagdalaa
