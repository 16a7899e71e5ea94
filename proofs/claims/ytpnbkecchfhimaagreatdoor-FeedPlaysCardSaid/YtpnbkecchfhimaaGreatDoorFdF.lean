/- Chapter 20: clones, parts of bytes; a feeder is closed; the bytes of a token: walks. -/
import Derived.Test.YtpnbkecchfhimaaGreatDoorFdE
namespace Go.Proofs.YtpnbkecchfhimaaGreatDoor
open Go.RowKit Go.Shelf
open Go.Lib (hid)
set_option linter.unusedVariables false
set_option linter.unusedSimpArgs false
set_option maxRecDepth 100000

theorem eql_nil (t : TypeId) (e : TypeId) (ht : Tryz.prog.underlying t = some (.slice e)) (w : World) (a : Option Addr) (n c n' c' : Nat) : (binOp .eql t (.slice a n c) (.slice none n' c')).run Tryz.prog w = .ok (.bool a.isNone) w := Lib.run_eql_slice_nil w _ _ a n c n' c' ht
theorem bclone_any (A : Option Addr) (n cap : Nat) (s : ByteArray) (w : World) (hba : BA w A n cap s) (hn : n ≤ 1000000) :
    Calls Tryz.prog 43 #[.slice A n cap] w fun e w' => ∃ v, e = .returned v ∧ w'.ownsRow w.heap.size 5 1 v s.size (u8s s) ∧ Below w.heap.size w w' := by
  obtain ⟨i0, hi, hz0, hz1, hz2⟩ := info_parts info_u8
  have hq := eql_nil 22 5 Tryz.underlying22
  have HN := hid hba.1
  have HRD := hid hba.reads
  cases A with
  | none =>
    have h0 : n = 0 := by
      rcases Nat.eq_zero_or_pos n with h | h
      · exact h
      · obtain ⟨b, off, e, _⟩ := hba.2.2.2 h
        cases e
    have HS0 := hid (show s.size = 0 by rw [← hba.1]; exact h0)
    clear hba h0
    go_enter Tryz.func43, Tryz.ntmps43
    go_wp2_with fail
    go_ret
    refine ⟨_, rfl, ?_, Below.refl _ _⟩
    have hu : u8s s = [] := List.eq_nil_of_length_eq_zero (by rw [u8s_len]; exact HS0.out)
    rw [HS0.out, hu]
    exact World.ownsRow_nil _ _ _ _
  | some a =>
    have HE := hid (owns_empty w 5 1)
    have HRD1 := hid (show Reads (w.alloc (.cells #[] 5)) w.heap.size 1 (some a) n (u8s s) from HRD.out.alloc (Nat.le_refl _) _)
    have hs1 : (w.alloc (.cells #[] 5)).heap.size = w.heap.size + 1 := by simp
    have HB1 := hid ((Below.refl w.heap.size w).alloc (Nat.le_refl _) (.cells #[] 5))
    clear hba
    go_enter Tryz.func43, Tryz.ntmps43
    go_wp2_with (at_builtin; go_must (refine wpList_append_any _ rfl (.tmp 5) (.tmp 6) 22 rfl w.heap.size 5 i0 (.int .u8 0) 1 1 Tryz.underlying22 hi hz0 hz1 hz2 rfl (by decide) _ 0 [] rfl HE.out _ (some a) n cap (u8s s) rfl HRD1.out (u8s_one _) (by unfold maxLen; omega) (by omega) (by omega) ?_); intro v6 w6 hown6 hgrow6 _)
    go_ret
    refine ⟨v6, rfl, ?_, HB1.out.grown hgrow6 (by omega) (fun k e => by cases e; exact Nat.le_refl _)⟩
    rw [← HN.out]
    simpa using hown6
theorem slice_ba {W : World} {A : Option Addr} {n c : Nat} {s : ByteArray} (h : BA W A n c s) {i e : Nat} (h1 : i ≤ e) (h2 : e ≤ n) :
    ∃ A' c', (∀ W' : World, (Instr.slice 22 (.slice A n c) (some (.int .i64 i)) (some (.int .i64 e)) none).run Tryz.prog W' = .ok (.slice A' (e - i) c') W') ∧ BA W A' (e - i) c' (s.extract i e) := by
  obtain ⟨b1, b2, b3, b4⟩ := h
  refine ⟨if c = i then A else A.map (·.add i), c - i, fun W' => ?_, ?_⟩
  · rw [run_slice_lh (P := Tryz.prog) W' 22 _ n c rfl .i64 .i64 i e (by omega) (by omega) (by omega)]
    have hs : (sizeOf (Tryz.prog.elem 22)).run Tryz.prog W' = .ok 1 W' := by go_simp
    rw [hs]
    by_cases hc : c = i
    · subst hc
      simp [Result.andThen, sliced]
    · simp only [Result.andThen, sliced, Int.toNat_natCast, if_neg hc, Nat.mul_one]
      try simp
  · by_cases h0 : i = e
    · subst h0
      exact ⟨by rw [ByteArray.size_extract]; omega, by omega, by omega, fun h => by omega⟩
    · obtain ⟨b, off, rfl, hb, hz⟩ := b4 (by omega)
      rw [if_neg (by omega)]
      have := ba_segF hz hb b1 b2 b3 h1 h2
      rw [Option.map_some, show (Addr.add ⟨b, off, none⟩ i) = ⟨b, off + i, none⟩ by unfold Addr.add; split <;> simp_all]
      exact this
theorem conv_ba {W : World} {A : Option Addr} {n c : Nat} {s : ByteArray} (h : BA W A n c s) : (convert 22 9 (.slice A n c)).run Tryz.prog W = .ok (.string s) W := by
  by_cases h0 : n = 0
  · subst h0
    have hs : s = ⟨#[]⟩ := by
      have h1 : s.size = 0 := h.1.symm
      apply ByteArray.ext
      exact Array.eq_empty_of_size_eq_zero h1
    subst hs
    clear h
    cases A <;> first | rfl | (simp [convert]; done) | kernel_rfl
  · obtain ⟨b1, b2, b3, b4⟩ := h
    obtain ⟨b, off, rfl, hb, hz⟩ := b4 (by omega)
    have := conv_sub hz 0 n c (Nat.zero_le _) (by omega)
    rw [Nat.add_zero, Nat.sub_zero, b1] at this
    rw [b1, this, ByteArray.extract_zero_size]
theorem BA.nil (W : World) : BA W none 0 0 ⟨#[]⟩ := ⟨rfl, Nat.le_refl _, by decide, fun h => absurd h (by decide)⟩
set_option maxHeartbeats 8000000 in
theorem close_any (g : Nat) (s : ByteArray) (m k : Nat) (was : ByteArray) (wa : Nat) (fd wt : Int) (w : World) (hf : FdAt w g s m k was wa fd wt false) (hok : FdOk s m k) (hmx : Mx w) (hgm : g ≠ 0) (hm : s.size ≤ 400000) :
    Calls Tryz.prog 15 #[.pointer (some ⟨g, 0, none⟩)] w fun e w' => ∃ v m' k', e = .returned v ∧ w'.ownsRow w.heap.size 29 6 v ((toks s).length - (m + k)) (tkCells ((toks s).drop (m + k))) ∧
      FdAt w' g s m' k' (s.extract (begT (toks s) m) s.size) (begT (toks s) m) fd 0 true ∧ w.grownBy w' (some g) := by
  obtain ⟨Ab, nb, cb, Aw, nw, cw, h1, h2, h3, h4, h5⟩ := hf
  have hgl := h1.lt
  obtain ⟨p, hp⟩ : ∃ p, p = begT (toks s) m := ⟨_, rfl⟩
  obtain ⟨t, ht⟩ : ∃ t, t = s.extract p s.size := ⟨_, rfl⟩
  have hnx := hok.feed (s' := s) ⟨Nat.le_refl _, fun i hi => rfl⟩ hp ht
  have hps : p ≤ s.size := by rw [hp]; exact begT_le (by have := hok.le; omega)
  rw [← hp] at h1 h2 ⊢
  rw [← ht] at h2 ⊢
  have x0 := h1.cell 0
  have x6 := h1.cell 6
  have x7 := h1.cell 7
  have xf := h1.frozen
  unfold fdC at x0 x6 x7
  simp only [List.getElem?_toArray, List.getElem?_cons_zero, List.getElem?_cons_succ] at x0 x6 x7
  have H1 := hid h1
  have H2 := hid h2
  have H3 := hid h3
  have H4 := hid h4
  have HNX := hid hnx
  have HT := hid ht
  have hts : t.size ≤ 400000 := by rw [ht, ext_size]; omega
  have HTS := hid hts
  have HPB := hid (show p ≤ 400000 by omega)
  have HGM := hid hgm
  have HMX := hid hmx
  have HNB := hid h2.1
  clear h1 h2 h3 h4 h5 hnx ht hmx hps hok hm hp hgm hts
  go_enter Tryz.func15, Tryz.ntmps15
  go_upto_region 4 with fail
  have HK1 := hid (show Blk (w.setCell ⟨g, 7, none⟩ (.bool true)) g 64 (fdC Ab nb cb p k (.slice Aw nw cw) wa fd wt true) by have := H1.out.set_ 7 (.bool true); simpa [fdC] using this)
  have HG1 := hid (grown_set w g 7 (.bool true))
  generalize w.setCell ⟨g, 7, none⟩ (.bool true) = w1 at *
  clear x0 x6 x7 xf
  have x6 := HK1.out.cell 6
  have xf := HK1.out.frozen
  unfold fdC at x6
  simp only [List.getElem?_toArray, List.getElem?_cons_zero, List.getElem?_cons_succ] at x6
  go_upto_region 5 with fail
  have HK2 := hid (show Blk (w1.setCell ⟨g, 6, none⟩ (.int .i64 0)) g 64 (fdC Ab nb cb p k (.slice Aw nw cw) wa fd 0 true) by have := HK1.out.set_ 6 (.int .i64 0); simpa [fdC] using this)
  have HG2 := hid (HG1.out.trans (grown_set w1 g 6 (.int .i64 0)))
  generalize w1.setCell ⟨g, 6, none⟩ (.int .i64 0) = w4 at *
  clear x6 xf HK1 HG1
  have HBA4 := hid (H2.out.grown HG2.out H4.out)
  have y0 := HK2.out.cell 0
  unfold fdC at y0
  simp only [List.getElem?_toArray, List.getElem?_cons_zero, List.getElem?_cons_succ] at y0
  have hmx4 : Mx w4 := by
    obtain ⟨mm, hmm⟩ := HMX.out
    exact ⟨mm, (World.cell?_of_block (HG2.out.block _ (World.block_lt_of_cell? _ _ hmm) (fun e => HGM.out (by injection e with e; exact e.symm)))).trans hmm⟩
  have HALL := hid (tokAll_any Ab nb cb t w4 HBA4.out hmx4 (by have := HTS.out; have := HNB.out; omega))
  have hg4l := HK2.out.lt
  go_wp2_with fail
  refine HALL.out.mono ?_
  rintro e w5 ⟨v, rfl, hmd, hb5⟩
  obtain ⟨A5, cap5, rfl, htr5, hc5, hc6, hA5⟩ := slice_form hmd
  have HTR := hid htr5
  have HA5 := hid (show ∀ b, A5 = some ⟨b, 0, none⟩ → b ≠ g from fun b e => by have := hA5 b e; omega)
  have HK5 := hid (HK2.out.below hb5 hg4l)
  have HBA5 := hid (HBA4.out.below hb5 (Nat.le_refl _))
  have HG5 := hid (HG2.out.trans (grown_of_below hb5 (some g)))
  have HANS := hid (answer_any g A5 (toks t).length cap5 t Ab nb cb p k (toks t).length (.slice Aw nw cw) wa fd 0 true w5 HK5.out HBA5.out HTR.out hc5 hc6 HA5.out H4.out HNX.out.kle (Nat.le_refl _) (by have := HTS.out; omega) (by have := HPB.out; omega))
  clear hmd htr5 hc5 hc6 hA5 hb5 hmx4 HALL y0
  obtain ⟨L, hL⟩ : ∃ L, L = (toks t).length := ⟨_, rfl⟩
  have HL := hid hL
  rw [← hL] at HANS ⊢
  clear hL
  go_wp2_with fail
  refine HANS.out.mono ?_
  rintro e w10 ⟨v, rfl, hr10, ⟨Ab', cb', hk10, hba10, hab10⟩, hg10⟩
  have HR10 := hid hr10
  have HK10 := hid hk10
  have HBA10 := hid hba10
  have HAB10 := hid hab10
  have HG10 := hid hg10
  clear hr10 hk10 hba10 hab10 hg10
  go_wp2_with fail
  go_ret
  have hkl := HNX.out.kle
  have hll := HNX.out.len
  have hml := HNX.out.mle
  have hout := HNX.out.out (toks t).length hkl (Nat.le_refl _)
  have h9 : (toks s).take (m + (toks t).length) = toks s := by rw [show m + (toks t).length = (toks s).length by omega]; exact List.take_length
  rw [h9] at hout
  have hn1 : (nextM (toks t) L).1 ≤ (toks t).length := by
    rw [HL.out]
    cases (toks t).length with
    | zero => exact Nat.zero_le _
    | succ j =>
      unfold nextM
      simp only
      split <;> simp
  have hcut := HNX.out.cut HT.out (j := (nextM (toks t) L).1) hn1
  have hbeg := HNX.out.beg (nextM (toks t) L).1 hn1
  refine ⟨v, m + (nextM (toks t) L).1, (nextM (toks t) L).2, rfl, ?_, ⟨Ab', nb - begT (toks t) (nextM (toks t) L).1, cb', Ab, nb, cb, ?_, ?_, ?_, (fun b o e => by obtain ⟨o', e'⟩ := HAB10.out b o e; exact H4.out b o' e'), H4.out⟩, HG5.out.trans HG10.out⟩
  · have h := HR10.out
    have h3 : (((toks t).take L).drop k).map (Tk.up p) = (toks s).drop (m + k) := by rw [HL.out]; exact hout
    rw [h3] at h
    have e3 : (toks s).length - (m + k) = L - k := by have := HL.out; omega
    rw [e3]
    exact owns_base h HG5.out.size
  · rw [← hbeg]
    exact HK10.out
  · rw [← hcut]
    exact HBA10.out
  · exact HBA5.out.grown HG10.out H4.out
/-- The bytes of a token of the last answer. -/
def bytesF (was : ByteArray) (wa : Nat) (fr til : Int) : ByteArray := if (wa : Int) ≤ fr ∧ fr ≤ til ∧ til ≤ ((wa + was.size : Nat) : Int) then was.extract (fr.toNat - wa) (til.toNat - wa) else ⟨#[]⟩
set_option maxHeartbeats 8000000 in
theorem fbytes_any (g : Nat) (s : ByteArray) (m k : Nat) (was : ByteArray) (wa : Nat) (fd wt : Int) (cl : Bool) (kd fr til : Int) (nm : ByteArray) (r : Int) (sg : Bool) (w : World) (hf : FdAt w g s m k was wa fd wt cl) (hwa : wa ≤ 400000) (hws : was.size ≤ 400000) :
    Calls Tryz.prog 20 #[.pointer (some ⟨g, 0, none⟩), .agg #[.int .i64 kd, .int .i64 fr, .int .i64 til, .string nm, .int .i32 r, .bool sg]] w fun e w' => ∃ A n c, e = .returned (.slice A n c) ∧ BA w' A n c (bytesF was wa fr til) ∧ Below w.heap.size w w' := by
  obtain ⟨Ab, nb, cb, Aw, nw, cw, h1, h2, h3, h4, h5⟩ := hf
  have hb1 : Below w.heap.size w (w.alloc (.cells #[.int .i64 kd, .int .i64 fr, .int .i64 til, .string nm, .int .i32 r, .bool sg] 29)) := (Below.refl _ _).alloc (Nat.le_refl _) _
  have q := Blk.new w 29 #[.int .i64 kd, .int .i64 fr, .int .i64 til, .string nm, .int .i32 r, .bool sg]
  have z1 := q.cell 1
  have z2 := q.cell 2
  have hk := h1.below hb1 h1.lt
  have y3 := hk.cell 3
  have y4 := hk.cell 4
  unfold fdC at y3 y4
  simp only [List.getElem?_toArray, List.getElem?_cons_zero, List.getElem?_cons_succ] at z1 z2 y3 y4
  have HB1 := hid hb1
  have hn := h3.1
  have hnn : wa + was.size = wa + nw := by omega
  have hw1 : (wa : Int) + (nw : Int) = ((wa + nw : Nat) : Int) := by omega
  have hw2 : IntKind.i64.wrap ((wa + nw : Nat) : Int) = ((wa + nw : Nat) : Int) := IntWalk.i64_in _ (by omega)
  have H3 := hid (h3.below hb1 (Nat.le_refl _))
  have hnw : nw ≤ 400000 := by omega
  have HFALSE : ¬ ((wa : Int) ≤ fr ∧ fr ≤ til ∧ til ≤ ((wa + nw : Nat) : Int)) → Hid (bytesF was wa fr til = ⟨#[]⟩) := fun h => by
    show _ = _
    unfold bytesF
    rw [hnn, if_neg h]
  have HTRUE : ((wa : Int) ≤ fr ∧ fr ≤ til ∧ til ≤ ((wa + nw : Nat) : Int)) → Hid (bytesF was wa fr til = was.extract (fr.toNat - wa) (til.toNat - wa)) := fun h => by
    show _ = _
    unfold bytesF
    rw [hnn, if_pos h]
  have HF := hid HFALSE
  have HTT := hid HTRUE
  clear h1 h2 h3 h4 h5 hb1 q hk HFALSE HTRUE hn hnn hws
  generalize hwn : wa + nw = wn at *
  have HWN := hid hwn
  clear hwn
  go_enter Tryz.func20, Tryz.ntmps20
  go_upto_region 1 with fail
  generalize w.alloc (.cells #[.int .i64 kd, .int .i64 fr, .int .i64 til, .string nm, .int .i32 r, .bool sg] 29) = w1 at *
  by_cases c1 : fr < (wa : Int)
  · have hd1 : decide (fr < (wa : Int)) = true := decide_eq_true c1
    have HR := HF.out (by omega)
    go_quiet (fail)
    go_wp2_with fail
    go_ret
    exact ⟨none, 0, 0, rfl, by rw [HR.out]; exact BA.nil _, HB1.out.trans (below_drewN _ w1 nq)⟩
  have hd1 : decide (fr < (wa : Int)) = false := decide_eq_false c1
  by_cases c2 : til < fr
  · have hd2 : decide (til < fr) = true := decide_eq_true c2
    have HR := HF.out (by omega)
    go_quiet (fail)
    go_wp2_with fail
    go_ret
    exact ⟨none, 0, 0, rfl, by rw [HR.out]; exact BA.nil _, HB1.out.trans (below_drewN _ w1 nq)⟩
  have hd2 : decide (til < fr) = false := decide_eq_false c2
  by_cases c3 : (wn : Int) < til
  · have hd3 : decide ((wn : Int) < til) = true := decide_eq_true c3
    have HR := HF.out (by omega)
    go_quiet (fail)
    go_wp2_with fail
    go_ret
    exact ⟨none, 0, 0, rfl, by rw [HR.out]; exact BA.nil _, HB1.out.trans (below_drewN _ w1 nq)⟩
  have hd3 : decide ((wn : Int) < til) = false := decide_eq_false c3
  have HR := HTT.out (by omega)
  obtain ⟨a, ha⟩ : ∃ a : Nat, fr - (wa : Int) = (a : Int) := ⟨(fr - wa).toNat, by omega⟩
  obtain ⟨b, hb⟩ : ∃ b : Nat, til - (wa : Int) = (b : Int) := ⟨(til - wa).toNat, by omega⟩
  have hab : a ≤ b := by omega
  have hbn : b ≤ nw := by have := HWN.out; omega
  have ea : fr.toNat - wa = a := by omega
  have eb : til.toNat - wa = b := by omega
  rw [ea, eb] at HR
  have hwa1 : IntKind.i64.wrap (a : Int) = a := IntWalk.i64_in _ (by omega)
  have hwb1 : IntKind.i64.wrap (b : Int) = b := IntWalk.i64_in _ (by omega)
  obtain ⟨A', c', hsl, hba'⟩ := slice_ba H3.out hab hbn
  obtain ⟨z, hz⟩ : ∃ z, z = was.extract a b := ⟨_, rfl⟩
  rw [← hz] at hba' HR
  have HBA' := hid hba'
  clear hba' hab hbn ea eb hz HF HTT
  go_quiet (fail)
  go_upto_region 3 with fail
  have HCL := hid (fun W (h : Below w1.heap.size w1 W) => bclone_any A' (b - a) c' z W (HBA'.out.below h (Nat.le_refl _)) (by omega))
  refine wp_region_held_drew (S := fun w' : World => w'.cell? ⟨g, 3, none⟩ = some (.slice Aw nw cw) ∧ w'.cell? ⟨g, 4, none⟩ = some (.int .i64 wa) ∧ w'.cell? ⟨w.heap.size, 1, none⟩ = some (.int .i64 fr) ∧ w'.cell? ⟨w.heap.size, 2, none⟩ = some (.int .i64 til)) (by kernel_rfl) ⟨y3, y4, z1, z2⟩ (fun hHeld => ?_)
  refine wpAnyH_take (i := 0) (v := ?hv1) rfl (by kernel_rfl) (by kernel_rfl) (by kernel_rfl) (fun _ _ _ h => h) (Or.inl ⟨by rfl, ?hy1⟩) (by assumption) ?hr1
  case hy1 => (intro w hSw; (try dsimp only at hSw); go_simp; try with_reducible rfl)
  (try simp only [Act.put, List.getElem_toArray, List.getElem_cons_zero, List.setIfInBounds_toArray, List.set_cons_zero, List.set_cons_succ])
  refine wpAnyH_take (i := 1) (v := ?hv2) rfl (by kernel_rfl) (by kernel_rfl) (by kernel_rfl) (fun _ _ _ h => h) (Or.inl ⟨by rfl, ?hy2⟩) (by assumption) ?hr2
  case hy2 => (intro w hSw; (try dsimp only at hSw); go_simp; try with_reducible rfl)
  (try simp only [Act.put, List.getElem_toArray, List.getElem_cons_zero, List.getElem_cons_succ, List.setIfInBounds_toArray, List.set_cons_zero, List.set_cons_succ])
  refine wpAnyH_take (i := 2) (v := ?hv3) rfl (by kernel_rfl) (by kernel_rfl) (by kernel_rfl) (fun _ _ _ h => h) (Or.inl ⟨by rfl, ?hy3⟩) (by assumption) ?hr3
  case hy3 => (intro w hSw; (try dsimp only at hSw); go_simp; try with_reducible rfl)
  (try simp only [Act.put, List.getElem_toArray, List.getElem_cons_zero, List.getElem_cons_succ, List.setIfInBounds_toArray, List.set_cons_zero, List.set_cons_succ])
  refine wpAnyH_take (i := 3) (v := ?hv4) rfl (by kernel_rfl) (by kernel_rfl) (by kernel_rfl) (fun _ _ _ h => h) (Or.inl ⟨by rfl, ?hy4⟩) (by assumption) ?hr4
  case hy4 => (intro w hSw; (try dsimp only at hSw); go_simp; try with_reducible rfl)
  (try simp only [Act.put, List.getElem_toArray, List.getElem_cons_zero, List.getElem_cons_succ, List.setIfInBounds_toArray, List.set_cons_zero, List.set_cons_succ])
  refine wpAnyH_take (i := 4) (v := ?hv5) rfl (by kernel_rfl) (by kernel_rfl) (by kernel_rfl) (fun _ _ _ h => h) (Or.inl ⟨by rfl, ?hy5⟩) (by assumption) ?hr5
  case hy5 => (intro w hSw; (try dsimp only at hSw); go_simp; try with_reducible rfl)
  (try simp only [Act.put, List.getElem_toArray, List.getElem_cons_zero, List.getElem_cons_succ, List.setIfInBounds_toArray, List.set_cons_zero, List.set_cons_succ])
  refine wpAnyH_take (i := 5) (v := ?hv6) rfl (by kernel_rfl) (by kernel_rfl) (by kernel_rfl) (fun _ _ _ h => h) (Or.inl ⟨by rfl, ?hy6⟩) (by assumption) ?hr6
  case hy6 => (intro w hSw; (try dsimp only at hSw); go_simp; try with_reducible rfl)
  (try simp only [Act.put, List.getElem_toArray, List.getElem_cons_zero, List.getElem_cons_succ, List.setIfInBounds_toArray, List.set_cons_zero, List.set_cons_succ])
  refine wpAnyH_take (i := 6) (v := ?hv7) rfl (by kernel_rfl) (by kernel_rfl) (by kernel_rfl) (fun _ _ _ h => h) (Or.inl ⟨by rfl, ?hy7⟩) (by assumption) ?hr7
  case hy7 => (intro w hSw; (try dsimp only at hSw); go_simp; try with_reducible rfl)
  (try simp only [Act.put, List.getElem_toArray, List.getElem_cons_zero, List.getElem_cons_succ, List.setIfInBounds_toArray, List.set_cons_zero, List.set_cons_succ])
  refine wpAnyH_take (i := 7) (v := ?hv8) rfl (by kernel_rfl) (by kernel_rfl) (by kernel_rfl) (fun _ _ _ h => h) (Or.inl ⟨by rfl, ?hy8⟩) (by assumption) ?hr8
  case hy8 => (intro w hSw; (try dsimp only at hSw); go_simp; try with_reducible rfl)
  (try simp only [Act.put, List.getElem_toArray, List.getElem_cons_zero, List.getElem_cons_succ, List.setIfInBounds_toArray, List.set_cons_zero, List.set_cons_succ])
  refine wpAnyH_take (i := 8) (v := ?hv9) rfl (by kernel_rfl) (by kernel_rfl) (by kernel_rfl) (fun _ _ _ h => h) (Or.inl ⟨by rfl, ?hy9⟩) (by assumption) ?hr9
  case hy9 => (intro w hSw; (try dsimp only at hSw); go_simp; try with_reducible rfl)
  (try simp only [Act.put, List.getElem_toArray, List.getElem_cons_zero, List.getElem_cons_succ, List.setIfInBounds_toArray, List.set_cons_zero, List.set_cons_succ])
  refine wpAnyH_take (i := 9) (v := ?hv10) rfl (by kernel_rfl) (by kernel_rfl) (by kernel_rfl) (fun _ _ _ h => h) (Or.inl ⟨by rfl, ?hy10⟩) (by assumption) ?hr10
  case hy10 => (intro w hSw; (try dsimp only at hSw); go_simp; try with_reducible rfl)
  (try simp only [Act.put, List.getElem_toArray, List.getElem_cons_zero, List.getElem_cons_succ, List.setIfInBounds_toArray, List.set_cons_zero, List.set_cons_succ])
  refine wpAnyH_take (i := 10) (v := ?hv11) rfl (by kernel_rfl) (by kernel_rfl) (by kernel_rfl) (fun _ _ _ h => h) (Or.inl ⟨by rfl, ?hy11⟩) (by assumption) ?hr11
  case hy11 => (intro w hSw; (try dsimp only at hSw); go_simp; try with_reducible rfl)
  (try simp only [Act.put, List.getElem_toArray, List.getElem_cons_zero, List.getElem_cons_succ, List.setIfInBounds_toArray, List.set_cons_zero, List.set_cons_succ])
  refine wpAnyH_take (i := 11) (v := ?hv12) rfl (by kernel_rfl) (by kernel_rfl) (by kernel_rfl) (fun _ _ _ h => h) (Or.inl ⟨by rfl, ?hy12⟩) (by assumption) ?hr12
  case hy12 => (intro w hSw; (try dsimp only at hSw); go_simp; try with_reducible rfl)
  (try simp only [Act.put, List.getElem_toArray, List.getElem_cons_zero, List.getElem_cons_succ, List.setIfInBounds_toArray, List.set_cons_zero, List.set_cons_succ])
  refine wpAnyH_take (i := 12) (v := ?hv13) rfl (by kernel_rfl) (by kernel_rfl) (by kernel_rfl) (fun _ _ _ h => h) (Or.inl ⟨by rfl, ?hy13⟩) (by assumption) ?hr13
  case hy13 => (intro w hSw; (try dsimp only at hSw); go_simp; try with_reducible rfl)
  (try simp only [Act.put, List.getElem_toArray, List.getElem_cons_zero, List.getElem_cons_succ, List.setIfInBounds_toArray, List.set_cons_zero, List.set_cons_succ])
  refine wpAnyH_take (i := 13) (v := ?hv14) rfl (by kernel_rfl) (by kernel_rfl) (by kernel_rfl) (fun _ _ _ h => h) (Or.inl ⟨by rfl, ?hy14⟩) (by assumption) ?hr14
  case hy14 => (intro w hSw; (try dsimp only at hSw); go_simp; try with_reducible rfl)
  (try simp only [Act.put, List.getElem_toArray, List.getElem_cons_zero, List.getElem_cons_succ, List.setIfInBounds_toArray, List.set_cons_zero, List.set_cons_succ])
  refine wpAnyH_take (i := 14) (v := ?hv15) rfl (by kernel_rfl) (by kernel_rfl) (by kernel_rfl) (fun _ _ _ h => h) (Or.inl ⟨by rfl, ?hy15⟩) (by assumption) ?hr15
  case hy15 => (intro w hSw; (try dsimp only at hSw); go_simp; try with_reducible rfl)
  (try simp only [Act.put, List.getElem_toArray, List.getElem_cons_zero, List.getElem_cons_succ, List.setIfInBounds_toArray, List.set_cons_zero, List.set_cons_succ])
  refine wpAnyH_take (i := 15) (v := ?hv16) rfl (by kernel_rfl) (by kernel_rfl) (by kernel_rfl) (fun _ _ _ h => h) (Or.inl ⟨by rfl, ?hy16⟩) (by assumption) ?hr16
  case hy16 => (intro w hSw; (try dsimp only at hSw); go_simp; try with_reducible rfl)
  (try simp only [Act.put, List.getElem_toArray, List.getElem_cons_zero, List.getElem_cons_succ, List.setIfInBounds_toArray, List.set_cons_zero, List.set_cons_succ])
  refine wpAnyH_take (i := 16) (v := ?hv17) rfl (by kernel_rfl) (by kernel_rfl) (by kernel_rfl) (fun _ _ _ h => h) (Or.inl ⟨by rfl, ?hy17⟩) (by assumption) ?hr17
  case hy17 => (intro w hSw; (try dsimp only at hSw); go_simp; try with_reducible rfl)
  (try simp only [Act.put, List.getElem_toArray, List.getElem_cons_zero, List.getElem_cons_succ, List.setIfInBounds_toArray, List.set_cons_zero, List.set_cons_succ])
  refine wpAnyH_take (i := 17) (v := ?hv18) rfl (by kernel_rfl) (by kernel_rfl) (by kernel_rfl) (fun _ _ _ h => h) (Or.inl ⟨by rfl, ?hy18⟩) (by assumption) ?hr18
  case hy18 => (intro w hSw; (try dsimp only at hSw); go_simp; try with_reducible rfl)
  (try simp only [Act.put, List.getElem_toArray, List.getElem_cons_zero, List.getElem_cons_succ, List.setIfInBounds_toArray, List.set_cons_zero, List.set_cons_succ])
  refine wpAnyH_take (i := 18) (v := ?hv19) rfl (by kernel_rfl) (by kernel_rfl) (by kernel_rfl) (fun _ _ _ h => h) (Or.inl ⟨by rfl, ?hy19⟩) (by assumption) ?hr19
  case hy19 => (intro w hSw; (try dsimp only at hSw); go_simp; try with_reducible rfl)
  (try simp only [Act.put, List.getElem_toArray, List.getElem_cons_zero, List.getElem_cons_succ, List.setIfInBounds_toArray, List.set_cons_zero, List.set_cons_succ])
  refine wpAnyH_take (i := 19) (v := ?hv20) rfl (by kernel_rfl) (by kernel_rfl) (by kernel_rfl) (fun _ _ _ h => h) (Or.inl ⟨by rfl, ?hy20⟩) (by assumption) ?hr20
  case hy20 => (intro w hSw; (try dsimp only at hSw); go_simp; try with_reducible rfl)
  (try simp only [Act.put, List.getElem_toArray, List.getElem_cons_zero, List.getElem_cons_succ, List.setIfInBounds_toArray, List.set_cons_zero, List.set_cons_succ])
  refine wpAnyH_take (i := 20) (v := ?hv21) rfl (by kernel_rfl) (by kernel_rfl) (by kernel_rfl) (fun _ _ _ h => h) (Or.inl ⟨by rfl, ?hy21⟩) (by assumption) ?hr21
  case hy21 => (intro w hSw; (try dsimp only at hSw); go_simp; try with_reducible rfl)
  (try simp only [Act.put, List.getElem_toArray, List.getElem_cons_zero, List.getElem_cons_succ, List.setIfInBounds_toArray, List.set_cons_zero, List.set_cons_succ])
  refine wpAnyH_take (i := 21) (v := ?hv22) rfl (by kernel_rfl) (by kernel_rfl) (by kernel_rfl) (fun _ _ _ h => h) (Or.inl ⟨by rfl, ?hy22⟩) (by assumption) ?hr22
  case hy22 => (intro w hSw; (try dsimp only at hSw); go_simp; try with_reducible rfl)
  (try simp only [Act.put, List.getElem_toArray, List.getElem_cons_zero, List.getElem_cons_succ, List.setIfInBounds_toArray, List.set_cons_zero, List.set_cons_succ])
  refine wpAnyH_ready (rs := [22]) (by kernel_rfl) (by simp) ?_
  refine AllReadyH.cons rfl (fun K hK => ?_) AllReadyH.nil
  go_simp
  go_at_call 43
  refine (HCL.out _ (below_drewN _ w1 nq).drew).mono ?_
  rintro e w5 ⟨v, rfl, hr, hb5⟩
  obtain ⟨A5, c5, rfl⟩ := owns_slice hr
  have HBA5 := hid (BA.of_own hr)
  have hb15 : Below w1.heap.size w1 w5 := (below_drewN w1.heap.size w1 nq).drew.trans hb5
  have HB5 := hid (HB1.out.trans (hb15.mono HB1.out.size))
  have hgl : ∀ (p : Addr) (v : Value), w1.cell? p = some v → w5.cell? p = some v := fun p v h => (hb15.cell (World.block_lt_of_cell? _ _ h)).trans h
  have HS5 := hid (And.intro (hgl _ _ y3) (And.intro (hgl _ _ y4) (And.intro (hgl _ _ z1) (hgl _ _ z2))))
  clear hr hb5 hb15 hgl
  go_wp2_with fail
  refine hK.out _ _ HS5.out (fun hHeld2 => ?_)
  clear hK K hHeld
  refine wpAnyH_take (i := 23) (v := ?hv23) rfl (by kernel_rfl) (by kernel_rfl) (by kernel_rfl) (fun _ _ _ h => h) (Or.inl ⟨by rfl, ?hy23⟩) (by assumption) ?hr23
  case hy23 => (intro w hSw; (try dsimp only at hSw); go_simp; try with_reducible rfl)
  (try simp only [Act.put, List.getElem_toArray, List.getElem_cons_zero, List.getElem_cons_succ, List.setIfInBounds_toArray, List.set_cons_zero, List.set_cons_succ])
  refine wpAnyH_done (by kernel_rfl) ?_ _
  clear hHeld2
  go_wp2_with fail
  go_ret
  exact ⟨_, _, _, rfl, by rw [HR.out]; exact HBA5.out, HB5.out⟩
end Go.Proofs.YtpnbkecchfhimaaGreatDoor
