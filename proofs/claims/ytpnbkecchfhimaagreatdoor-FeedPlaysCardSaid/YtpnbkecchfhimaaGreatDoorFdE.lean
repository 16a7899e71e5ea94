/- Chapter 20: a feeder is fed: the walk. -/
import Derived.Test.YtpnbkecchfhimaaGreatDoorFdD
import Derived.Test.YtpnbkecchfhimaaGreatDoorFdP3
namespace Go.Proofs.YtpnbkecchfhimaaGreatDoor
open Go.RowKit Go.Shelf
open Go.Lib (hid)
set_option linter.unusedVariables false
set_option linter.unusedSimpArgs false
set_option maxRecDepth 100000

/-- A feeder, at a block: fed with s so far; m tokens are behind, k more are answered; what it told last, and from where. -/
def FdAt (W : World) (g : Nat) (s : ByteArray) (m k : Nat) (was : ByteArray) (wa : Nat) (fd wt : Int) (cl : Bool) : Prop :=
  ∃ Ab nb cb Aw nw cw, Blk W g 64 (fdC Ab nb cb (begT (toks s) m) k (.slice Aw nw cw) wa fd wt cl) ∧ BA W Ab nb cb (s.extract (begT (toks s) m) s.size) ∧ BA W Aw nw cw was ∧ (∀ b o, Ab = some ⟨b, o, none⟩ → b ≠ g) ∧ (∀ b o, Aw = some ⟨b, o, none⟩ → b ≠ g)
theorem FdAt.lt {W : World} {g : Nat} {s : ByteArray} {m k : Nat} {was : ByteArray} {wa : Nat} {fd wt : Int} {cl : Bool} (h : FdAt W g s m k was wa fd wt cl) : g < W.heap.size := by
  obtain ⟨Ab, nb, cb, Aw, nw, cw, h1, _⟩ := h
  exact h1.lt
theorem FdAt.below {W W' : World} {g B : Nat} {s : ByteArray} {m k : Nat} {was : ByteArray} {wa : Nat} {fd wt : Int} {cl : Bool} (h : FdAt W g s m k was wa fd wt cl) (hb : Below B W W') (hB : W.heap.size ≤ B) : FdAt W' g s m k was wa fd wt cl := by
  obtain ⟨Ab, nb, cb, Aw, nw, cw, h1, h2, h3, h4, h5⟩ := h
  exact ⟨Ab, nb, cb, Aw, nw, cw, h1.below hb (Nat.lt_of_lt_of_le h1.lt hB), h2.below hb hB, h3.below hb hB, h4, h5⟩
theorem BA.grown0 {w w' : World} {A : Option Addr} {n c g : Nat} {s : ByteArray} (h : BA w A n c s) (hg : w.grownBy w' (some g)) (hne : 0 < n → ∀ b o, A = some ⟨b, o, none⟩ → b ≠ g) : BA w' A n c s :=
  ⟨h.1, h.2.1, h.2.2.1, fun hn => by
    obtain ⟨b, o, e, hb, hz⟩ := h.2.2.2 hn
    exact ⟨b, o, e, Nat.lt_of_lt_of_le hb hg.size, Bytes.keepAt hz fun k => World.cell?_of_block (hg.block b hb (fun e2 => hne hn b o e (by injection e2)))⟩⟩
/-- Kept, where a row below those blocks is written. -/
theorem FdAt.row {W W' : World} {g L : Nat} {s : ByteArray} {m k : Nat} {was : ByteArray} {wa : Nat} {fd wt : Int} {cl : Bool} (h : FdAt W g s m k was wa fd wt cl) (hi : ∀ b o n c, (W.cell? ⟨g, 0, none⟩ = some (.slice (some ⟨b, o, none⟩) n c) ∨ W.cell? ⟨g, 3, none⟩ = some (.slice (some ⟨b, o, none⟩) n c)) → L ≤ b) {row : Option Nat} (hg : W.grownBy W' row) (hr : ∀ j, row = some j → j < L ∧ j ≠ g) : FdAt W' g s m k was wa fd wt cl := by
  obtain ⟨Ab, nb, cb, Aw, nw, cw, h1, h2, h3, h4, h5⟩ := h
  have q0 := h1.cell 0
  have q3 := h1.cell 3
  unfold fdC at q0 q3
  simp only [List.getElem?_toArray, List.getElem?_cons_zero, List.getElem?_cons_succ] at q0 q3
  have hba : ∀ (A : Option Addr) (n c : Nat) (t : ByteArray), BA W A n c t → (∀ b o, A = some ⟨b, o, none⟩ → L ≤ b) → BA W' A n c t := fun A n c t hb hl => ⟨hb.1, hb.2.1, hb.2.2.1, fun hn => by
    obtain ⟨b, o, e, hlt, hz⟩ := hb.2.2.2 hn
    exact ⟨b, o, e, Nat.lt_of_lt_of_le hlt hg.size, Bytes.keepAt hz fun j => World.cell?_of_block (hg.block b hlt (fun e2 => by have := hr b e2.symm; have := hl b o e; omega))⟩⟩
  exact ⟨Ab, nb, cb, Aw, nw, cw, h1.grown hg (fun e => (hr g e.symm).2 rfl), hba _ _ _ _ h2 (fun b o e => hi b o nb cb (.inl (by rw [q0, e]))), hba _ _ _ _ h3 (fun b o e => hi b o nw cw (.inr (by rw [q3, e]))), h4, h5⟩
theorem noB_extract (p : Nat) : noB.extract p noB.size = noB := by
  apply ByteArray.ext
  simp [noB]
theorem fdNew_any (w : World) : Calls Tryz.prog 11 #[] w fun e w' => e = .returned (.pointer (some ⟨w.heap.size, 0, none⟩)) ∧ FdAt w' w.heap.size noB 0 0 noB 0 0 0 false ∧ Below w.heap.size w w' := by
  have HB := hid (fun cs => (Below.refl w.heap.size w).alloc (Nat.le_refl _) (.cells cs 64))
  have HK := hid (fun cs => Blk.new w 64 cs)
  go_enter Tryz.func11, Tryz.ntmps11
  go_wp2_with fail
  go_ret
  refine ⟨rfl, ⟨none, 0, 0, none, 0, 0, HK.out _, ?_, ⟨rfl, Nat.le_refl _, by decide, fun h => absurd h (by decide)⟩, (fun b o e => by cases e), (fun b o e => by cases e)⟩, HB.out _⟩
  rw [noB_extract]
  exact ⟨rfl, Nat.le_refl _, by decide, fun h => absurd h (by decide)⟩
theorem slice_form {W : World} {v : Value} {l : List Tk} {B : Nat} (h : MadeT B W v l) : ∃ A cap, v = .slice A l.length cap ∧ TR W A l.length l ∧ l.length ≤ cap ∧ cap ≤ 9223372036854775807 ∧ ∀ b, A = some ⟨b, 0, none⟩ → B ≤ b := by
  obtain ⟨A, cap, rfl, htr⟩ := TR.of_made h
  obtain ⟨A2, c2, e, h1, h2, _⟩ := owns_form h.1
  injection e with e1 _ e3
  subst e1 e3
  exact ⟨A, cap, rfl, htr, h1, by unfold maxLen at h2; omega, fun b hb => (h.1.lt b (by rw [hb]; rfl)).1⟩
/-- The bytes that are held, and those of the last answer, are of blocks from a place on. -/
def FdHi (W : World) (g L : Nat) : Prop := ∀ b o n c, (W.cell? ⟨g, 0, none⟩ = some (.slice (some ⟨b, o, none⟩) n c) ∨ W.cell? ⟨g, 3, none⟩ = some (.slice (some ⟨b, o, none⟩) n c)) → L ≤ b
/-- What one piece more answers, and what is held behind it. -/
def FeedPost (g : Nat) (s x : ByteArray) (m k : Nat) (fd : Int) (n : Nat) (w : World) (e : Ending) (w' : World) : Prop :=
  ∃ v m' k', e = .returned v ∧ w'.ownsRow w.heap.size 29 6 v (setN (s ++ x) - (m + k)) (tkCells (((toks (s ++ x)).take (setN (s ++ x))).drop (m + k))) ∧
      FdAt w' g (s ++ x) m' k' ((s ++ x).extract (begT (toks s) m) (s ++ x).size) (begT (toks s) m) (fd + n) (if (toks (s ++ x)).length ≤ setN (s ++ x) then 0 else ((s ++ x).size : Int) - ((((toks (s ++ x)).getD (setN (s ++ x)) ⟨0, 0, 0, noB, 0, false⟩).fr : Nat) : Int)) false ∧ FdOk (s ++ x) m' k' ∧ m' + k' = setN (s ++ x) ∧ w.grownBy w' (some g) ∧ FdHi w' g w.heap.size
set_option maxHeartbeats 8000000 in
theorem feed_any (g : Nat) (s x : ByteArray) (m k : Nat) (was : ByteArray) (wa : Nat) (fd wt : Int) (A : Option Addr) (n cap : Nat) (w : World) (hf : FdAt w g s m k was wa fd wt false) (hok : FdOk s m k) (hba : BA w A n cap x) (hA : 0 < n → ∀ b o, A = some ⟨b, o, none⟩ → b ≠ g) (hmx : Mx w) (hgm : g ≠ 0) (hm : (s ++ x).size ≤ 400000) (hfd : 0 ≤ fd) (hfd2 : fd ≤ 1000000) :
    Calls Tryz.prog 12 #[.pointer (some ⟨g, 0, none⟩), .slice A n cap] w (FeedPost g s x m k fd n w) := by
  obtain ⟨Ab, nb, cb, Aw, nw, cw, h1, h2, h3, h4, h5⟩ := hf
  have hgl := h1.lt
  have hpre : Pre s (s ++ x) := ⟨by rw [ByteArray.size_append]; omega, fun i hi => byt_left s x i hi⟩
  obtain ⟨p, hp⟩ : ∃ p, p = begT (toks s) m := ⟨_, rfl⟩
  obtain ⟨t, ht⟩ : ∃ t, t = (s ++ x).extract p (s ++ x).size := ⟨_, rfl⟩
  have hnx := hok.feed hpre hp ht
  have hps : p ≤ s.size := by rw [hp]; exact begT_le (by have := hok.le; omega)
  have htt : s.extract p s.size ++ x = t := by
    rw [ht]
    apply ext_byt
    · rw [ByteArray.size_append, ext_size, ext_size, ByteArray.size_append]; omega
    · intro i hi
      rw [ByteArray.size_append, ext_size] at hi
      rw [byt_ext (s ++ x) p i (by rw [ByteArray.size_append]; omega)]
      by_cases hlt : i < s.size - p
      · rw [byt_left _ _ i (by rw [ext_size]; exact hlt), byt_ext s p i (by omega), byt_left s x _ (by omega)]
      · obtain ⟨j, rfl⟩ : ∃ j, i = s.size - p + j := ⟨i - (s.size - p), by omega⟩
        have e1 : s.size - p + j = (s.extract p s.size).size + j := by rw [ext_size]
        have e2 : p + (s.size - p + j) = s.size + j := by omega
        rw [e2, byt_right, e1, byt_right]
  rw [← hp] at h1 h2
  have HPE := hid hp
  have x0 := h1.cell 0
  have x1 := h1.cell 1
  have x2 := h1.cell 2
  have x5 := h1.cell 5
  have x6 := h1.cell 6
  have x7 := h1.cell 7
  have xf := h1.frozen
  unfold fdC at x0 x1 x2 x5 x6 x7
  simp only [List.getElem?_toArray, List.getElem?_cons_zero, List.getElem?_cons_succ] at x0 x1 x2 x5 x6 x7
  have hns := hba.1
  have hss : (s ++ x).size = s.size + x.size := ByteArray.size_append
  have H1 := hid h1
  have H2 := hid h2
  have H3 := hid h3
  have H4 := hid h4
  have H5 := hid h5
  have HBA := hid hba
  have HA := hid hA
  have HNX := hid hnx
  have HTT := hid htt
  have HT := hid ht
  have HMX := hid hmx
  have HTS := hid (show t.size ≤ 400000 by rw [ht, ext_size]; omega)
  have HPB := hid (show p ≤ 400000 by omega)
  have e1 : IntKind.i64.wrap (fd + (n : Int)) = fd + (n : Int) := IntWalk.i64_in _ (by omega)
  have e2 : fd + (n : Int) ≤ 2000000 := by omega
  have HSX := hid hss
  have HNS := hid hns
  have hn4 : n ≤ 400000 := by omega
  have hnb4 : nb ≤ 400000 := by have := h2.1; rw [ext_size] at this; omega
  have HGM := hid hgm
  clear h1 h2 h3 h4 h5 hba hA hnx htt ht hmx hpre hps hss hok hm hns hp hgm
  generalize hfn : fd + (n : Int) = fn at *
  have HFN := hid hfn
  go_enter Tryz.func12, Tryz.ntmps12
  go_upto_region 4 with fail
  have HK1 := hid (show Blk (w.setCell ⟨g, 5, none⟩ (.int .i64 fn)) g 64 (fdC Ab nb cb p k (.slice Aw nw cw) wa fn wt false) by have := H1.out.set_ 5 (.int .i64 fn); simpa [fdC] using this)
  have HG1 := hid (grown_set w g 5 (.int .i64 fn))
  generalize w.setCell ⟨g, 5, none⟩ (.int .i64 fn) = w1 at *
  clear x0 x1 x2 x5 x6 x7 xf hfn
  have y0 := HK1.out.cell 0
  have yf := HK1.out.frozen
  unfold fdC at y0
  simp only [List.getElem?_toArray, List.getElem?_cons_zero, List.getElem?_cons_succ] at y0
  have hb2 : Below w1.heap.size w1 (w1.alloc (.cells #[.slice Ab nb cb, .slice A n cap] 22)) := (Below.refl _ _).alloc (Nat.le_refl _) _
  have HCC := hid (concat_any Ab A nb n cb cap w1.heap.size (s.extract p s.size) x _ ((H2.out.grown HG1.out H4.out).below hb2 (Nat.le_refl _)) ((HBA.out.grown0 HG1.out HA.out).below hb2 (Nat.le_refl _)) (Blk.new w1 22 #[.slice Ab nb cb, .slice A n cap]) hnb4 hn4)
  rw [HTT.out] at HCC
  have HK2 := hid (HK1.out.below hb2 HK1.out.lt)
  have HG2 := hid (HG1.out.trans (grown_of_below hb2 (some g)))
  have hs2 : w1.heap.size < (w1.alloc (.cells #[.slice Ab nb cb, .slice A n cap] 22)).heap.size := by simp
  have hg1l := HK1.out.lt
  clear hb2
  go_wp2_with fail
  refine HCC.out.mono ?_
  rintro e w3 ⟨v, rfl, hr3, hb3⟩
  obtain ⟨A3, c3, rfl⟩ := owns_slice hr3
  have hA3 : ∀ b o, A3 = some ⟨b, o, none⟩ → b ≠ g := fun b o e => by
    have := (hr3.lt b (by rw [e]; rfl)).1
    omega
  have hba3 := BA.of_own hr3
  have hk3 := HK2.out.below hb3 HK2.out.lt
  have z0 := hk3.cell 0
  have zf := hk3.frozen
  unfold fdC at z0
  simp only [List.getElem?_toArray, List.getElem?_cons_zero, List.getElem?_cons_succ] at z0
  have hg3 := HG2.out.trans (grown_of_below hb3 (some g))
  have HK4 := hid (show Blk (w3.setCell ⟨g, 0, none⟩ (.slice A3 t.size c3)) g 64 (fdC A3 t.size c3 p k (.slice Aw nw cw) wa fn wt false) by have := hk3.set_ 0 (.slice A3 t.size c3); simpa [fdC] using this)
  have HG4 := hid (hg3.trans (grown_set w3 g 0 (.slice A3 t.size c3)))
  have HBA4 := hid (hba3.grown (grown_set w3 g 0 (.slice A3 t.size c3)) hA3)
  have HA3 := hid hA3
  have HA3L := hid (show ∀ b o, A3 = some ⟨b, o, none⟩ → w.heap.size ≤ b from fun b o e => by
    have h8 := (hr3.lt b (by rw [e]; rfl)).1
    have h9 := HG1.out.size
    omega)
  clear hr3 hb3 hba3 hk3 hg3 hA3 HCC HK2 HG2 y0 yf
  go_upto_region 5 with fail
  generalize w3.setCell ⟨g, 0, none⟩ (.slice A3 t.size c3) = w4 at *
  clear z0 zf
  have y0 := HK4.out.cell 0
  unfold fdC at y0
  simp only [List.getElem?_toArray, List.getElem?_cons_zero, List.getElem?_cons_succ] at y0
  have hmx4 : Mx w4 := by
    obtain ⟨mm, hmm⟩ := HMX.out
    exact ⟨mm, (World.cell?_of_block (HG4.out.block _ (World.block_lt_of_cell? _ _ hmm) (fun e => HGM.out (by injection e with e; exact e.symm)))).trans hmm⟩
  have HALL := hid (tokAll_any A3 t.size c3 t w4 HBA4.out hmx4 (by have := HTS.out; omega))
  have hg4l := HK4.out.lt
  go_wp2_with fail
  refine HALL.out.mono ?_
  rintro e w5 ⟨v, rfl, hmd, hb5⟩
  obtain ⟨A5, cap5, rfl, htr5, hc5, hc6, hA5⟩ := slice_form hmd
  have HTR := hid htr5
  have HCAP := hid (And.intro hc5 hc6)
  have HA5 := hid (show ∀ b, A5 = some ⟨b, 0, none⟩ → b ≠ g from fun b e => by have := hA5 b e; omega)
  have HK5 := hid (HK4.out.below hb5 hg4l)
  have HBA5 := hid (HBA4.out.below hb5 (Nat.le_refl _))
  have HG5 := hid (HG4.out.trans (grown_of_below hb5 (some g)))
  have hmx5 := hmx4.below hb5 (Nat.le_refl _)
  have HMX5 := hid hmx5
  clear hmd htr5 hc5 hc6 hA5 hb5 hmx4 hmx5 HALL y0 HK4 HG4 HBA4 HG1 HK1
  have HK4 := HK5
  have HG14 := HG5
  obtain ⟨L, hL⟩ : ∃ L, L = (toks t).length := ⟨_, rfl⟩
  have HL := hid hL
  rw [← hL] at HTR HCAP ⊢
  have hkL : k ≤ L := by rw [hL]; exact HNX.out.kle
  have hkL' : (k : Int) ≤ (L : Int) := by omega
  have hL4 : L ≤ 400000 := by rw [hL]; have := toks_len t; have := HTS.out; omega
  clear hL
  have HG4L := hid HK4.out.lt
  have y0 := HK4.out.cell 0
  have y2 := HK4.out.cell 2
  unfold fdC at y0 y2
  simp only [List.getElem?_toArray, List.getElem?_cons_zero, List.getElem?_cons_succ] at y0 y2
  go_wp2_with fail
  go_loopg [6] (L - k) (fun kx s6 wr => ∃ i : Nat, s6 = .int .i64 i ∧ k ≤ i ∧ i ≤ L ∧ L - i ≤ kx ∧ Hid (∀ j, k ≤ j → j < i → setB t (toks t) j = true) ∧ Hid (Below w5.heap.size w5 wr))
  case atStart => exact ⟨k, congrArg (Value.int .i64) (Int.min_eq_left hkL'), Nat.le_refl _, hkL, Nat.le_refl _, fun j h1 h2 => by omega, Below.refl _ _⟩
  case round =>
    obtain ⟨i, rfl, hi1, hi2, hgi, HSET, HBW⟩ := hrel
    have hszw := HBW.out.size
    have hsc : ∀ e, i ≤ e → scanTo (fun i => !setB t (toks t) i) (toks t).length i = e → scanTo (fun i => !setB t (toks t) i) (toks t).length k = e := fun e h1 h2 => by
      rw [← h2]
      have : ∀ d k', i - k' = d → k ≤ k' → k' ≤ i → scanTo (fun i => !setB t (toks t) i) (toks t).length k' = scanTo (fun i => !setB t (toks t) i) (toks t).length i := by
        intro d
        induction d with
        | zero =>
          intro k' h1 h2 h3
          obtain rfl : k' = i := by omega
          rfl
        | succ d ih =>
          intro k' h1 h2 h3
          rw [scanTo_step (by have := HL.out; omega) (by rw [HSET.out k' h2 (by omega)]; rfl)]
          exact ih (k' + 1) (by omega) (by omega) (by omega)
      exact this _ k rfl (Nat.le_refl _) hi1
    have HSCF := hid hsc
    have y0w := (HBW.out.cell (p := ⟨g, 0, none⟩) HG4L.out).trans y0
    have y2w := (HBW.out.cell (p := ⟨g, 2, none⟩) HG4L.out).trans y2
    clear hsc
    by_cases hlt : i < L
    · have hlt' : (i : Int) < (L : Int) := by omega
      have HSTL := hid (settled_tok A3 t.size c3 t A5 L cap5 i wr (HBA5.out.below HBW.out (Nat.le_refl _)) (HTR.out.below HBW.out (Nat.le_refl _)) (HMX5.out.below HBW.out (Nat.le_refl _)) (by have := HTS.out; omega) hlt)
      cases hsb : setB t (toks t) i with
      | true =>
        rw [hsb] at HSTL
        have HSB := hid hsb
        clear hsb
        go_wp2_with fail
        refine HSTL.out.mono ?_
        rintro e wr2 ⟨rfl, hb6⟩
        have HB6 := hid (HBW.out.trans (hb6.mono HBW.out.size))
        clear hb6
        go_wp2_with fail
        go_roundg (L - (i + 1))
        case measure => omega
        case rel => exact ⟨i + 1, by go_num, by omega, by omega, Nat.le_refl _, fun j h1 h2 => by
          by_cases hj : j = i
          · subst hj; exact HSB.out
          · exact HSET.out j h1 (by omega), HB6.out⟩
      | false =>
        rw [hsb] at HSTL
        have HSC := HSCF.out i (Nat.le_refl _) (scanTo_stop (by have := HL.out; omega) (by rw [hsb]; rfl))
        clear hsb
        have HBW0 := HBW
        go_wp2_with fail
        refine HSTL.out.mono ?_
        rintro e W0 ⟨rfl, hb6⟩
        have HBW := hid (HBW0.out.trans (hb6.mono HBW0.out.size))
        have HSCH := hid HSC
        clear hb6 y0w y2w y0 y2 HSC HBW0
        have HSC := HSCH.out
        have HST := hid (HNX.out.stop)
        rw [HSC] at HST
        have hil : i ≤ (toks t).length := by rw [← HL.out]; exact hi2
        have HLF := hid (left_tok A5 L cap5 (toks t) i t.size W0 (HTR.out.below HBW.out (Nat.le_refl _)) (fun h => by
          have h1 := toks_begEnd t
          obtain ⟨j, hj⟩ : ∃ j, (toks t).length = j + 1 := ⟨(toks t).length - 1, by omega⟩
          rw [hj] at h1
          unfold begT at h1
          simp only at h1
          rw [List.getElem?_eq_getElem (by omega)] at h1
          simpa [hj] using h1) (fun u hu => by have := toks_mem hu; have := HTS.out; omega) (by have := HL.out; have := toks_len t; have := HTS.out; omega) (by have := HL.out; have := toks_len t; have := HTS.out; omega))
        go_upto_region 9 with fail
        have z6 := (HK4.out.below HBW.out HG4L.out).cell 6
        unfold fdC at z6
        simp only [List.getElem?_toArray, List.getElem?_cons_zero, List.getElem?_cons_succ] at z6
        have zf := (HK4.out.below HBW.out HG4L.out).frozen
        go_wp2_with fail
        refine HLF.out.mono ?_
        rintro e w8 ⟨rfl, hb8⟩
        have HB8 := hid (HBW.out.trans (hb8.mono HBW.out.size))
        have hk8 := HK4.out.below HB8.out HG4L.out
        have z6 := hk8.cell 6
        have zf := hk8.frozen
        unfold fdC at z6
        simp only [List.getElem?_toArray, List.getElem?_cons_zero, List.getElem?_cons_succ] at z6
        have HK9 := hid (show Blk (w8.setCell ⟨g, 6, none⟩ (.int .i64 (leftN (toks t) i t.size))) g 64 (fdC A3 t.size c3 p k (.slice Aw nw cw) wa fn (leftN (toks t) i t.size) false) by have := hk8.set_ 6 (.int .i64 (leftN (toks t) i t.size)); simpa [fdC] using this)
        have HG9 := hid ((grown_of_below HB8.out (some g)).trans (grown_set w8 g 6 (.int .i64 (leftN (toks t) i t.size))))
        clear hk8 hb8
        go_upto_region 10 with fail
        generalize w8.setCell ⟨g, 6, none⟩ (.int .i64 (leftN (toks t) i t.size)) = w9 at *
        clear z6 zf
        have HTR9 := hid (HTR.out.grown HG9.out HA5.out)
        have HBA9 := hid (HBA5.out.grown HG9.out HA3.out)
        have HANS := hid (answer_any g A5 L cap5 t A3 t.size c3 p k i (.slice Aw nw cw) wa fn (leftN (toks t) i t.size) false w9 HK9.out HBA9.out HTR9.out HCAP.out.1 HCAP.out.2 HA5.out HA3.out hi1 hi2 (by have := HTS.out; omega) (by have := HPB.out; omega))
        go_wp2_with fail
        refine HANS.out.mono ?_
        rintro e w10 ⟨v, rfl, hr10, ⟨Ab', cb', hk10, hba10, hab10⟩, hg10⟩
        have HR10 := hid hr10
        have HK10 := hid hk10
        have HBA10 := hid hba10
        have HAB10 := hid hab10
        have HG10 := hid hg10
        clear hr10 hk10 hba10 hab10 hg10
        go_wp2_with fail
        go_ret
        have hne := HNX.out.next i hi1 (by rw [HST.out]; exact Nat.le_refl _)
        have hG := ((HG14.out.trans HG9.out).trans HG10.out)
        have hout := HNX.out.out i hi1 hil
        have hleft := HNX.out.left i
        rw [HST.out] at hout hleft
        have hcut := HNX.out.cut HT.out (j := (nextM (toks t) i).1) (by have := hne.2; omega)
        have hbeg := HNX.out.beg (nextM (toks t) i).1 (by have := hne.2; omega)
        unfold FeedPost
        rw [← HPE.out, HFN.out]
        refine ⟨v, m + (nextM (toks t) i).1, (nextM (toks t) i).2, rfl, ?_, ⟨Ab', t.size - begT (toks t) (nextM (toks t) i).1, cb', A3, t.size, c3, ?_, ?_, ?_, (fun b o e => by obtain ⟨o', e'⟩ := HAB10.out b o e; exact HA3.out b o' e'), HA3.out⟩, hne.1, by have := hne.2; have := HST.out; omega, hG, ?_⟩
        · have h := HR10.out
          rw [hout] at h
          have e3 : setN (s ++ x) - (m + k) = i - k := by have := HST.out; omega
          rw [e3]
          exact owns_base h (by have := HG14.out.size; have := HG9.out.size; omega)
        · rw [← hbeg, ← hleft]
          exact HK10.out
        · rw [← hcut]
          exact HBA10.out
        · rw [← HT.out]
          exact HBA9.out.grown HG10.out HA3.out
        · intro b o n' c' h
          have q0 := HK10.out.cell 0
          have q3 := HK10.out.cell 3
          unfold fdC at q0 q3
          simp only [List.getElem?_toArray, List.getElem?_cons_zero, List.getElem?_cons_succ] at q0 q3
          rcases h with h | h
          · rw [q0] at h
            injection h with h
            injection h with h1 _ _
            obtain ⟨o', e'⟩ := HAB10.out b o h1
            exact HA3L.out b o' e'
          · rw [q3] at h
            injection h with h
            injection h with h1 _ _
            exact HA3L.out b o h1
    · have hiL : i = L := by omega
      have hlt' : ¬ (i : Int) < (L : Int) := by omega
      have HSC := HSCF.out i (Nat.le_refl _) (by have h1 := HL.out; exact scanTo_end (by omega))
      clear hiL hlt
      obtain ⟨W0, hW0⟩ : ∃ W0, W0 = wr := ⟨_, rfl⟩
      rw [← hW0] at HBW y0w y2w ⊢
      clear hW0
      have HSCH := hid HSC
      clear y0 y2 HSC
      go_upto_region 9 with fail
      clear y0w y2w
      have HSC := HSCH.out
      have HST := hid (HNX.out.stop)
      rw [HSC] at HST
      have hil : i ≤ (toks t).length := by rw [← HL.out]; exact hi2
      have HLF := hid (left_tok A5 L cap5 (toks t) i t.size W0 (HTR.out.below HBW.out (Nat.le_refl _)) (fun h => by
        have h1 := toks_begEnd t
        obtain ⟨j, hj⟩ : ∃ j, (toks t).length = j + 1 := ⟨(toks t).length - 1, by omega⟩
        rw [hj] at h1
        unfold begT at h1
        simp only at h1
        rw [List.getElem?_eq_getElem (by omega)] at h1
        simpa [hj] using h1) (fun u hu => by have := toks_mem hu; have := HTS.out; omega) (by have := HL.out; have := toks_len t; have := HTS.out; omega) (by have := HL.out; have := toks_len t; have := HTS.out; omega))
      have z6 := (HK4.out.below HBW.out HG4L.out).cell 6
      unfold fdC at z6
      simp only [List.getElem?_toArray, List.getElem?_cons_zero, List.getElem?_cons_succ] at z6
      have zf := (HK4.out.below HBW.out HG4L.out).frozen
      go_wp2_with fail
      refine HLF.out.mono ?_
      rintro e w8 ⟨rfl, hb8⟩
      have HB8 := hid (HBW.out.trans (hb8.mono HBW.out.size))
      have hk8 := HK4.out.below HB8.out HG4L.out
      have z6 := hk8.cell 6
      have zf := hk8.frozen
      unfold fdC at z6
      simp only [List.getElem?_toArray, List.getElem?_cons_zero, List.getElem?_cons_succ] at z6
      have HK9 := hid (show Blk (w8.setCell ⟨g, 6, none⟩ (.int .i64 (leftN (toks t) i t.size))) g 64 (fdC A3 t.size c3 p k (.slice Aw nw cw) wa fn (leftN (toks t) i t.size) false) by have := hk8.set_ 6 (.int .i64 (leftN (toks t) i t.size)); simpa [fdC] using this)
      have HG9 := hid ((grown_of_below HB8.out (some g)).trans (grown_set w8 g 6 (.int .i64 (leftN (toks t) i t.size))))
      clear hk8 hb8
      go_upto_region 10 with fail
      generalize w8.setCell ⟨g, 6, none⟩ (.int .i64 (leftN (toks t) i t.size)) = w9 at *
      clear z6 zf
      have HTR9 := hid (HTR.out.grown HG9.out HA5.out)
      have HBA9 := hid (HBA5.out.grown HG9.out HA3.out)
      have HANS := hid (answer_any g A5 L cap5 t A3 t.size c3 p k i (.slice Aw nw cw) wa fn (leftN (toks t) i t.size) false w9 HK9.out HBA9.out HTR9.out HCAP.out.1 HCAP.out.2 HA5.out HA3.out hi1 hi2 (by have := HTS.out; omega) (by have := HPB.out; omega))
      go_wp2_with fail
      refine HANS.out.mono ?_
      rintro e w10 ⟨v, rfl, hr10, ⟨Ab', cb', hk10, hba10, hab10⟩, hg10⟩
      have HR10 := hid hr10
      have HK10 := hid hk10
      have HBA10 := hid hba10
      have HAB10 := hid hab10
      have HG10 := hid hg10
      clear hr10 hk10 hba10 hab10 hg10
      go_wp2_with fail
      go_ret
      have hne := HNX.out.next i hi1 (by rw [HST.out]; exact Nat.le_refl _)
      have hG := ((HG14.out.trans HG9.out).trans HG10.out)
      have hout := HNX.out.out i hi1 hil
      have hleft := HNX.out.left i
      rw [HST.out] at hout hleft
      have hcut := HNX.out.cut HT.out (j := (nextM (toks t) i).1) (by have := hne.2; omega)
      have hbeg := HNX.out.beg (nextM (toks t) i).1 (by have := hne.2; omega)
      unfold FeedPost
      rw [← HPE.out, HFN.out]
      refine ⟨v, m + (nextM (toks t) i).1, (nextM (toks t) i).2, rfl, ?_, ⟨Ab', t.size - begT (toks t) (nextM (toks t) i).1, cb', A3, t.size, c3, ?_, ?_, ?_, (fun b o e => by obtain ⟨o', e'⟩ := HAB10.out b o e; exact HA3.out b o' e'), HA3.out⟩, hne.1, by have := hne.2; have := HST.out; omega, hG, ?_⟩
      · have h := HR10.out
        rw [hout] at h
        have e3 : setN (s ++ x) - (m + k) = i - k := by have := HST.out; omega
        rw [e3]
        exact owns_base h (by have := HG14.out.size; have := HG9.out.size; omega)
      · rw [← hbeg, ← hleft]
        exact HK10.out
      · rw [← hcut]
        exact HBA10.out
      · rw [← HT.out]
        exact HBA9.out.grown HG10.out HA3.out
      · intro b o n' c' h
        have q0 := HK10.out.cell 0
        have q3 := HK10.out.cell 3
        unfold fdC at q0 q3
        simp only [List.getElem?_toArray, List.getElem?_cons_zero, List.getElem?_cons_succ] at q0 q3
        rcases h with h | h
        · rw [q0] at h
          injection h with h
          injection h with h1 _ _
          obtain ⟨o', e'⟩ := HAB10.out b o h1
          exact HA3L.out b o' e'
        · rw [q3] at h
          injection h with h
          injection h with h1 _ _
          exact HA3L.out b o h1
end Go.Proofs.YtpnbkecchfhimaaGreatDoor
