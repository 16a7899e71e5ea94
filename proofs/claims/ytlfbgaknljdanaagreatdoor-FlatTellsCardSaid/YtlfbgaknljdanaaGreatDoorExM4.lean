/- Texts of ExL, ExN, ExO, merged by a program of mine. -/
import Derived.Test.YtlfbgaknljdanaaGreatDoorExM3
import Derived.Test.YtlfbgaknljdanaaGreatDoorExM5
import Derived.Test.YtlfbgaknljdanaaGreatDoorTkV0
import Derived.BigRegion

/- out of ExL -/
namespace Go.Proofs.YtlfbgaknljdanaaGreatDoor
open Go.RowKit Go.Shelf
open Go.Lib (hid)
set_option linter.unusedVariables false
set_option linter.unusedSimpArgs false
set_option maxRecDepth 100000

/-- Pieces, one behind the other. -/
def chainP : Nat → List S1.Pc → Nat → Prop
  | a, [], e => a ≤ e
  | a, p :: l, e => p.at_ = a ∧ chainP (a + p.size) l e
theorem chainP_le : ∀ (l : List S1.Pc) (a e : Nat), chainP a l e → a ≤ e
  | [], a, e, h => h
  | p :: l, a, e, h => by
    have := chainP_le l _ e h.2
    omega
theorem chainP_pcs (zs : List Int) : ∀ (d i : Nat), zs.length - i ≤ d → i ≤ zs.length → chainP i (S1.pcsFrom zs i) zs.length := by
  intro d
  induction d with
  | zero =>
    intro i hd hi
    rw [S1.pcsFrom_end (by omega)]
    exact hi
  | succ d ih =>
    intro i hd hi
    by_cases h : i < zs.length
    · have hs := S1.readF_drop_size h
      rw [S1.pcsFrom_step h]
      exact ⟨rfl, ih _ (by simp only; omega) (by simp only; omega)⟩
    · rw [S1.pcsFrom_end (by omega)]
      exact hi
/-- What the document goes through of a token that is no tag. -/
def refPcs (t : Tk) (zs : List Int) : List S1.Pc := if t.kind = 0 then S1.pcs zs else if t.kind = 1 then [⟨0, t.til - t.fr, t.r, false⟩] else []
theorem refPcs_chain {s : ByteArray} {t : Tk} (h1 : t.fr < t.til) (h2 : t.til ≤ s.size) : chainP 0 (refPcs t (seg s t)) (t.til - t.fr) := by
  unfold refPcs
  split
  · have := chainP_pcs (seg s t) _ 0 (Nat.le_refl _) (Nat.zero_le _)
    rw [seg_len h2] at this
    exact this
  · split
    · exact ⟨rfl, by show 0 + (t.til - t.fr) ≤ t.til - t.fr; omega⟩
    · exact Nat.zero_le _
theorem exTake_shown {x : Xs} {t : Tk} {zs : List Int} (hk : ¬ (t.kind = 2 ∨ t.kind = 3)) (hh : ¬ 0 < x.n.h) :
    exTake x t zs = (⟨x.n, x.fo && (refPcs t zs).isEmpty, x.ch && (refPcs t zs).isEmpty⟩, pcIts t.fr x.fo x.ch (decide (0 < x.n.b)) (decide (0 < x.n.p)) (refPcs t zs)) := by
  unfold refPcs
  by_cases h0 : t.kind = 0
  · rw [exTake_text h0 hh, if_pos h0, pcs_isEmpty]
  · rw [if_neg h0]
    by_cases h1 : t.kind = 1
    · rw [exTake_ref h1 hh, if_pos h1]
      simp [pcIts]
    · rw [exTake_other hk h0 h1, if_neg h1]
      simp [pcIts]
theorem refPcs_len {s : ByteArray} {t : Tk} (h1 : t.fr < t.til) (h2 : t.til ≤ s.size) : (refPcs t (seg s t)).length ≤ t.til - t.fr := by
  unfold refPcs
  split
  · have := S1.pcs_length (seg s t)
    rw [seg_len h2] at this
    exact this
  · split
    · show 1 ≤ _
      omega
    · exact Nat.zero_le _
/-- A slice that reads as pieces. -/
def PR (w : World) (A : Option Addr) (l : List S1.Pc) : Prop :=
  0 < l.length → ∃ g, A = some ⟨g, 0, none⟩ ∧ g < w.heap.size ∧ ∀ (j : Nat) (h : j < l.length), w.cell? ⟨g, j * 3, none⟩ = some (.int .i32 l[j].r) ∧ w.cell? ⟨g, j * 3 + 1, none⟩ = some (.int .i64 l[j].size)
theorem refCells_get : ∀ (l : List S1.Pc) (j : Nat) (h : j < l.length) (f : Nat), f < 3 → (l.flatMap S1.refCells)[j * 3 + f]? = (S1.refCells l[j])[f]?
  | t :: l, 0, h, f, hf => by
    have e : (t :: l).flatMap S1.refCells = S1.refCells t ++ l.flatMap S1.refCells := rfl
    rw [e, Nat.zero_mul, Nat.zero_add, List.getElem?_append_left (by show f < 3; exact hf)]
    simp
  | t :: l, j + 1, h, f, hf => by
    have e : (t :: l).flatMap S1.refCells = S1.refCells t ++ l.flatMap S1.refCells := rfl
    have h6 : (S1.refCells t).length = 3 := rfl
    rw [e, List.getElem?_append_right (by rw [h6]; omega), h6, show (j + 1) * 3 + f - 3 = j * 3 + f by omega]
    exact refCells_get l j (by simpa using h) f hf
theorem PR.of_own {W : World} {B : Nat} {e : TypeId} {v : Value} {l : List S1.Pc} (h : W.ownsRow B e 3 v l.length (l.flatMap S1.refCells)) : ∃ A cap, v = .slice A l.length cap ∧ PR W A l := by
  obtain ⟨A, cap, rfl⟩ := owns_slice h
  refine ⟨A, cap, rfl, fun hn => ?_⟩
  obtain ⟨k, hk⟩ : ∃ k, l.length = k + 1 := ⟨l.length - 1, by omega⟩
  rw [hk] at h
  obtain ⟨g, cap', e⟩ := ownsRow_succ (k := k) h
  injection e with e1 _ e3
  subst e1
  refine ⟨g, rfl, (h.lt g rfl).2, fun j hj => ?_⟩
  have h0 := refCells_get l j hj 0 (by decide)
  have h1 := refCells_get l j hj 1 (by decide)
  have c0 := h.cellAt (j * 3) (by omega)
  have c1 := h.cellAt (j * 3 + 1) (by omega)
  rw [Nat.add_zero] at h0
  rw [h0] at c0
  rw [h1] at c1
  exact ⟨c0, c1⟩
theorem PR.below {w w' : World} {A : Option Addr} {B : Nat} {l : List S1.Pc} (h : PR w A l) (hb : Below B w w') (hB : w.heap.size ≤ B) : PR w' A l := fun hn => by
  obtain ⟨g, e, hg, hz⟩ := h hn
  exact ⟨g, e, Nat.lt_of_lt_of_le hg hb.size, fun j hj => ⟨(hb.cell (p := ⟨g, j * 3, none⟩) (by show g < B; omega)).trans (hz j hj).1, (hb.cell (p := ⟨g, j * 3 + 1, none⟩) (by show g < B; omega)).trans (hz j hj).2⟩⟩
theorem PR.grown {w w' : World} {A : Option Addr} {row : Option Nat} {l : List S1.Pc} (h : PR w A l) (hg : w.grownBy w' row) (hne : ∀ g, A = some ⟨g, 0, none⟩ → some g ≠ row) : PR w' A l := fun hn => by
  obtain ⟨g, e, hl, hz⟩ := h hn
  exact ⟨g, e, Nat.lt_of_lt_of_le hl hg.size, fun j hj => ⟨(hg.cell_far ⟨g, j * 3, none⟩ hl (hne g e)).trans (hz j hj).1, (hg.cell_far ⟨g, j * 3 + 1, none⟩ hl (hne g e)).trans (hz j hj).2⟩⟩
theorem reads_row {w : World} {g : Nat} {t : TypeId} {cs : Array Value} {k : Nat} (h : Blk w g t cs) (hk : cs.size = k) : Reads w w.heap.size k (some ⟨g, 0, none⟩) 1 cs.toList := by
  refine ⟨by simp [hk], fun _ => ⟨_, rfl, h.lt, fun j u hj => ?_⟩⟩
  rw [show (Addr.add ⟨g, 0, none⟩ j) = ⟨g, j, none⟩ by unfold Addr.add; split <;> simp_all, h.cell]
  simpa using hj
theorem info_refI : (Tryz.prog.info? 39).map (fun i => (i.zero, i.size, i.bytes)) = some (some (.agg it0), 7, 32) := by kernel_rfl
theorem nset_blk {w : World} {g : Nat} {t : TypeId} {h p b h' p' b' : Int} (hk : Blk w g t #[.int .i64 h, .int .i64 p, .int .i64 b]) : Blk (((w.setCell ⟨g, 0, none⟩ (.int .i64 h')).setCell ⟨g, 1, none⟩ (.int .i64 p')).setCell ⟨g, 2, none⟩ (.int .i64 b')) g t #[.int .i64 h', .int .i64 p', .int .i64 b'] := by
  have := ((hk.set_ 0 (.int .i64 h')).set_ 1 (.int .i64 p')).set_ 2 (.int .i64 b')
  simpa using this
end Go.Proofs.YtlfbgaknljdanaaGreatDoor

/- out of ExN -/
namespace Go.Proofs.YtlfbgaknljdanaaGreatDoor
open Go.RowKit Go.Shelf
open Go.Lib (hid)
set_option linter.unusedVariables false
set_option linter.unusedSimpArgs false
set_option maxRecDepth 100000

set_option maxHeartbeats 8000000 in
theorem refAll23_any (a : Option Addr) (len cap : Nat) (s : ByteArray) (w : World) (hba : BA w a len cap s) (hm : len ≤ 1000000) :
    Calls Tryz.prog 17 #[.slice a len cap] w fun e W' => ∃ v, e = .returned v ∧ W'.ownsRow w.heap.size 39 7 v (exAll s).length (itCells (exAll s)) ∧ Below w.heap.size w W' := by
  obtain ⟨i0, hi, hz0, hz1, hz2⟩ := info_parts info_refI
  have HREF := hid (fun W (h : Below w.heap.size w W) => refAll_any a len cap s W (hba.below h (Nat.le_refl _)) hm)
  have HBA := hid (fun W (h : Below w.heap.size w W) => hba.below h (Nat.le_refl _))
  have HTK := hid (fun n en sg x W hn => refTake_any n en sg x W hn)
  have HLS := hid hba.1
  have HLN := hid (toks_len s)
  clear hba
  go_enter Tryz.func17, Tryz.ntmps17
  go_wp2_with fail
  refine (HREF.out _ (Below.refl _ _)).mono ?_
  rintro e w2 ⟨v, rfl, hmd, hb2⟩
  obtain ⟨A, tcap, rfl, htr⟩ := DR.of_made hmd
  have HTR := hid htr
  have HB2 := hid hb2
  have HMEM := hid (fun j (h : j < (toks s).length) => toks_mem (List.getElem_mem h))
  have HNM := hid (fun j (h : j < (toks s).length) => name_size (List.getElem_mem h))
  have HEX := hid (fun j (h : j < (toks s).length) => exGo_take h)
  have HOK := hid (fun j => exGo_ok s ((toks s).take j) xs0 xs0_ok)
  have HPL := hid (fun j => exGo_pre_len s ((toks s).take j) ((toks s).drop j) (List.take_append_drop j _))
  have HN0 := hid (Blk.new w2 76 #[.int .i64 0, .int .i64 0, .int .i64 0])
  have HB3 := hid (HB2.out.alloc HB2.out.size (.cells #[.int .i64 0, .int .i64 0, .int .i64 0] 76))
  have HW3 := hid ((Below.refl w2.heap.size w2).alloc (Nat.le_refl _) (.cells #[.int .i64 0, .int .i64 0, .int .i64 0] 76))
  have hs3 : w2.heap.size < (w2.alloc (.cells #[.int .i64 0, .int .i64 0, .int .i64 0] 76)).heap.size := by simp
  have hs2 := hb2.size
  clear hmd htr hb2 HREF
  obtain ⟨n, hn⟩ : ∃ n, n = (toks s).length := ⟨_, rfl⟩
  have HN := hid hn
  rw [← hn] at HTR ⊢
  have hn6 : n ≤ 1000000 := by have := HLN.out; have := HLS.out; omega
  clear hn
  go_upto_region 3 with fail
  generalize w2.alloc (.cells #[.int .i64 0, .int .i64 0, .int .i64 0] 76) = w3 at *
  have HNB := hid (And.intro hs3 hs2)
  generalize hbn : w2.heap.size = Bn at *
  have HBN := hid hbn
  clear hbn
  clear hs2
  go_wp2_with fail
  go_loopg [5, 6, 7, 8] n (fun kx s5 s6 s7 s8 wr => ∃ (v : Value) (i : Nat), s5 = v ∧ s6 = .bool (exGo s xs0 ((toks s).take i)).1.fo ∧ s7 = .bool (exGo s xs0 ((toks s).take i)).1.ch ∧ s8 = .int .i64 i ∧ i ≤ n ∧ n - i ≤ kx ∧ Hid (wr.ownsRow (Bn + 1) 39 7 v (exGo s xs0 ((toks s).take i)).2.length (itCells (exGo s xs0 ((toks s).take i)).2)) ∧ Hid (Blk wr Bn 76 (exGo s xs0 ((toks s).take i)).1.n.cells) ∧ Hid (Below Bn w2 wr))
  case atStart => exact ⟨_, 0, rfl, rfl, rfl, rfl, Nat.zero_le _, Nat.le_refl _, World.ownsRow_nil _ _ _ _, HN0.out, HW3.out⟩
  case round =>
    obtain ⟨v, i, rfl, rfl, rfl, rfl, hi1, hg1, HROW, HNR, HBR⟩ := hrel
    have hszr := HNR.out.lt
    have HBW := hid (HB2.out.trans (HBR.out.mono HNB.out.2))
    by_cases hlt : i < n
    · have hlt' : (i : Int) < (n : Int) := by omega
      have hil : i < (toks s).length := by rw [← HN.out]; exact hlt
      obtain ⟨gt, rfl, hgl, x0, x1, x2, x3, x4, x5, x6⟩ := (HTR.out.below HBR.out (by rw [HBN.out]; exact Nat.le_refl _)).at_ hil
      have HM := hid (HMEM.out i hil)
      have HNMI := hid (HNM.out i hil)
      have HEXI := hid (HEX.out i hil)
      have HOKI := hid (HOK.out i)
      have HPLI := hid (HPL.out (i + 1))
      generalize exGo s xs0 ((toks s).take i) = st at *
      obtain ⟨st2, hst2⟩ : ∃ st2, st2 = exGo s xs0 ((toks s).take (i + 1)) := ⟨_, rfl⟩
      rw [← hst2] at HEXI HPLI
      have HST2 := hid hst2
      clear hst2
      generalize (toks s)[i] = t at *
      obtain ⟨kd, fr, til, nm, r, sg⟩ := t
      obtain ⟨⟨⟨h, p, b'⟩, fo, ch⟩, its⟩ := st
      simp only [Ne.cells] at x0 x1 x2 x3 x4 x5 x6 HM HNMI HEXI HOKI HROW HNR
      have hbk := Blk.new wr 78 #[.int .i64 kd, .int .i64 fr, .int .i64 til, .string nm, .int .i32 r, .bool sg, .bool false]
      have y0 := hbk.cell 0
      have y1 := hbk.cell 1
      have y2 := hbk.cell 2
      have y3 := hbk.cell 3
      have y4 := hbk.cell 4
      have y5 := hbk.cell 5
      have hn4 := HNR.out.alloc (.cells #[.int .i64 kd, .int .i64 fr, .int .i64 til, .string nm, .int .i32 r, .bool sg, .bool false] 78)
      have n0 := hn4.cell 0
      have n1 := hn4.cell 1
      have n2 := hn4.cell 2
      have nf := hn4.frozen
      simp only [List.getElem?_toArray, List.getElem?_cons_zero, List.getElem?_cons_succ] at y0 y1 y2 y3 y4 y5 n0 n1 n2
      have HN4 := hid hn4
      have HROW4 := hid (HROW.out.alloc (.cells #[.int .i64 kd, .int .i64 fr, .int .i64 til, .string nm, .int .i32 r, .bool sg, .bool false] 78))
      have HBR4 := hid (HBR.out.alloc (Nat.le_of_lt hszr) (.cells #[.int .i64 kd, .int .i64 fr, .int .i64 til, .string nm, .int .i32 r, .bool sg, .bool false] 78))
      have hbl := hbk.lt
      have hBx : ¬ wr.heap.size = Bn := by omega
      have hBx2 : ¬ Bn = wr.heap.size := by omega
      go_upto_region 9 with fail
      generalize wr.alloc (.cells #[.int .i64 kd, .int .i64 fr, .int .i64 til, .string nm, .int .i32 r, .bool sg, .bool false] 78) = w4 at *
      have hsz4 := hn4.lt
      clear x0 x1 x2 x3 x4 x5 x6 hbk hn4 HNR HROW HBR
      generalize wr.heap.size = Bx at *
      by_cases hk2 : kd = 2
      · subst hk2
        have HEE := hid (exTake_tag (x := ⟨⟨h, p, b'⟩, fo, ch⟩) (t := ⟨2, fr, til, nm, r, sg⟩) (zs := seg s ⟨2, fr, til, nm, r, sg⟩) (.inl rfl))
        have HTT := hid (HTK.out ⟨h, p, b'⟩ false sg nm w4 HOKI.out)
        rw [show (if false = true then (3 : Int) else 2) = 2 from rfl] at HTT
        simp only [Ne.cells] at HTT
        simp only at HEE
        go_wp2_with fail
        refine HTT.out.mono ?_
        rintro e w5 ⟨rfl, hb5⟩
        generalize neTake ⟨h, p, b'⟩ 2 nm sg = R at *
        obtain ⟨⟨h', p', b''⟩, f', c'⟩ := R
        simp only at *
        have hq6 := Blk.new w5 76 #[.int .i64 h', .int .i64 p', .int .i64 b'']
        have hn6' := (HN4.out.below hb5 HN4.out.lt).alloc (.cells #[.int .i64 h', .int .i64 p', .int .i64 b''] 76)
        have q0 := hq6.cell 0
        have q1 := hq6.cell 1
        have q2 := hq6.cell 2
        have m0 := hn6'.cell 0
        have m1 := hn6'.cell 1
        have m2 := hn6'.cell 2
        have mf := hn6'.frozen
        simp only [List.getElem?_toArray, List.getElem?_cons_zero, List.getElem?_cons_succ] at q0 q1 q2 m0 m1 m2
        have HN6 := hid hn6'
        have HROW6 := hid ((owns_below HROW4.out hb5).alloc (.cells #[.int .i64 h', .int .i64 p', .int .i64 b''] 76))
        have HBR6 := hid ((HBR4.out.trans (hb5.mono (Nat.le_of_lt hsz4))).alloc (Nat.le_of_lt (Nat.lt_of_lt_of_le hsz4 hb5.size)) (.cells #[.int .i64 h', .int .i64 p', .int .i64 b''] 76))
        clear y0 y1 y2 y3 y4 y5 n0 n1 n2 nf hq6 hn6' hb5
        go_upto_region 11 with fail
        generalize w5.alloc (.cells #[.int .i64 h', .int .i64 p', .int .i64 b''] 76) = w6 at *
        have HN7 := hid (nset_blk (h' := h') (p' := p') (b' := b'') HN6.out)
        have HROW7 := hid (ownsRow_setCell_below (ownsRow_setCell_below (ownsRow_setCell_below HROW6.out (a := ⟨Bn, 0, none⟩) (Nat.lt_succ_self _) (.int .i64 h')) (a := ⟨Bn, 1, none⟩) (Nat.lt_succ_self _) (.int .i64 p')) (a := ⟨Bn, 2, none⟩) (Nat.lt_succ_self _) (.int .i64 b''))
        have HBR7 := hid (((HBR6.out.setCell (p := ⟨Bn, 0, none⟩) (Nat.le_refl _) (.int .i64 h')).setCell (p := ⟨Bn, 1, none⟩) (Nat.le_refl _) (.int .i64 p')).setCell (p := ⟨Bn, 2, none⟩) (Nat.le_refl _) (.int .i64 b''))
        clear HN6 HROW6 HBR6
        cases fo <;> cases ch
        all_goals
          go_wp2_with fail
          go_roundg (n - (i + 1))
          case measure => omega
          case rel => exact ⟨u5, i + 1, rfl, by rw [← HST2.out, HEXI.out, HEE.out]; rfl, by rw [← HST2.out, HEXI.out, HEE.out]; rfl, by go_num, by omega, Nat.le_refl _, by show World.ownsRow _ _ _ _ _ _ _; rw [← HST2.out, HEXI.out, HEE.out]; show World.ownsRow _ _ _ _ _ (its ++ []).length (itCells (its ++ [])); rw [List.append_nil]; exact HROW7.out, by show Blk _ _ _ _; rw [← HST2.out, HEXI.out, HEE.out]; exact HN7.out, HBR7.out⟩
      by_cases hk3 : kd = 3
      · subst hk3
        clear hk2
        have HEE := hid (exTake_tag (x := ⟨⟨h, p, b'⟩, fo, ch⟩) (t := ⟨3, fr, til, nm, r, sg⟩) (zs := seg s ⟨3, fr, til, nm, r, sg⟩) (.inr rfl))
        have HTT := hid (HTK.out ⟨h, p, b'⟩ true sg nm w4 HOKI.out)
        rw [show (if true = true then (3 : Int) else 2) = 3 from rfl] at HTT
        simp only [Ne.cells] at HTT
        simp only at HEE
        go_wp2_with fail
        refine HTT.out.mono ?_
        rintro e w5 ⟨rfl, hb5⟩
        generalize neTake ⟨h, p, b'⟩ 3 nm sg = R at *
        obtain ⟨⟨h', p', b''⟩, f', c'⟩ := R
        simp only at *
        have hq6 := Blk.new w5 76 #[.int .i64 h', .int .i64 p', .int .i64 b'']
        have hn6' := (HN4.out.below hb5 HN4.out.lt).alloc (.cells #[.int .i64 h', .int .i64 p', .int .i64 b''] 76)
        have q0 := hq6.cell 0
        have q1 := hq6.cell 1
        have q2 := hq6.cell 2
        have m0 := hn6'.cell 0
        have m1 := hn6'.cell 1
        have m2 := hn6'.cell 2
        have mf := hn6'.frozen
        simp only [List.getElem?_toArray, List.getElem?_cons_zero, List.getElem?_cons_succ] at q0 q1 q2 m0 m1 m2
        have HN6 := hid hn6'
        have HROW6 := hid ((owns_below HROW4.out hb5).alloc (.cells #[.int .i64 h', .int .i64 p', .int .i64 b''] 76))
        have HBR6 := hid ((HBR4.out.trans (hb5.mono (Nat.le_of_lt hsz4))).alloc (Nat.le_of_lt (Nat.lt_of_lt_of_le hsz4 hb5.size)) (.cells #[.int .i64 h', .int .i64 p', .int .i64 b''] 76))
        clear y0 y1 y2 y3 y4 y5 n0 n1 n2 nf hq6 hn6' hb5
        go_upto_region 11 with fail
        generalize w5.alloc (.cells #[.int .i64 h', .int .i64 p', .int .i64 b''] 76) = w6 at *
        have HN7 := hid (nset_blk (h' := h') (p' := p') (b' := b'') HN6.out)
        have HROW7 := hid (ownsRow_setCell_below (ownsRow_setCell_below (ownsRow_setCell_below HROW6.out (a := ⟨Bn, 0, none⟩) (Nat.lt_succ_self _) (.int .i64 h')) (a := ⟨Bn, 1, none⟩) (Nat.lt_succ_self _) (.int .i64 p')) (a := ⟨Bn, 2, none⟩) (Nat.lt_succ_self _) (.int .i64 b''))
        have HBR7 := hid (((HBR6.out.setCell (p := ⟨Bn, 0, none⟩) (Nat.le_refl _) (.int .i64 h')).setCell (p := ⟨Bn, 1, none⟩) (Nat.le_refl _) (.int .i64 p')).setCell (p := ⟨Bn, 2, none⟩) (Nat.le_refl _) (.int .i64 b''))
        clear HN6 HROW6 HBR6
        cases fo <;> cases ch
        all_goals
          go_wp2_with fail
          go_roundg (n - (i + 1))
          case measure => omega
          case rel => exact ⟨u5, i + 1, rfl, by rw [← HST2.out, HEXI.out, HEE.out]; rfl, by rw [← HST2.out, HEXI.out, HEE.out]; rfl, by go_num, by omega, Nat.le_refl _, by show World.ownsRow _ _ _ _ _ _ _; rw [← HST2.out, HEXI.out, HEE.out]; show World.ownsRow _ _ _ _ _ (its ++ []).length (itCells (its ++ [])); rw [List.append_nil]; exact HROW7.out, by show Blk _ _ _ _; rw [← HST2.out, HEXI.out, HEE.out]; exact HN7.out, HBR7.out⟩
      have hk2b : (kd == 2) = false := by simpa using hk2
      have hk3b : (kd == 3) = false := by simpa using hk3
      have HNT := hid (show ¬ (kd = 2 ∨ kd = 3) from fun h => h.elim hk2 hk3)
      have HEH := hid (exTake_hid (x := ⟨⟨h, p, b'⟩, fo, ch⟩) (t := ⟨kd, fr, til, nm, r, sg⟩) (zs := seg s ⟨kd, fr, til, nm, r, sg⟩) HNT.out)
      have HES := hid (exTake_shown (x := ⟨⟨h, p, b'⟩, fo, ch⟩) (t := ⟨kd, fr, til, nm, r, sg⟩) (zs := seg s ⟨kd, fr, til, nm, r, sg⟩) HNT.out)
      have HPC := hid (refPcs_chain (s := s) (t := ⟨kd, fr, til, nm, r, sg⟩) HM.out.1 HM.out.2.1)
      obtain ⟨P, hP⟩ : ∃ P, P = refPcs ⟨kd, fr, til, nm, r, sg⟩ (seg s ⟨kd, fr, til, nm, r, sg⟩) := ⟨_, rfl⟩
      have HPL2 := hid (refPcs_len (s := s) (t := ⟨kd, fr, til, nm, r, sg⟩) HM.out.1 HM.out.2.1)
      rw [← hP] at HPC HES HPL2
      have HPD := hid (show P = if kd = 0 then S1.pcs (seg s ⟨kd, fr, til, nm, r, sg⟩) else if kd = 1 then [⟨0, til - fr, r, false⟩] else [] from hP)
      simp only at HEH HES HPC HPL2
      clear hP hk2 hk3
      have hm1 := HM.out
      have hl1 := HLS.out
      obtain ⟨hb0, hb1, hb2, hb3⟩ := HBA.out w4 (HB2.out.trans (HBR4.out.mono HNB.out.2))
      obtain ⟨b, off, rfl, hbz, hbz2⟩ := hb3 (by omega)
      have HBZ := hid (ba_seg hbz2 hbz hb0 hb1 hb2 (Nat.le_of_lt hm1.1) (by omega : til ≤ len))
      have hsl := slice_row b off len cap fr til (Nat.le_of_lt hm1.1) (by omega) (by omega)
      have HCALL := hid (show Calls Tryz.prog 43 #[.slice (some ⟨b, off + fr, none⟩) (til - fr) (cap - fr)] w4 _ from by
        have hc := S1.refall_any (some ⟨b, off + fr, none⟩) (cap - fr) (seg s ⟨kd, fr, til, nm, r, sg⟩) w4 (sb_of_ba HBZ.out).1 (by rw [seg_len HM.out.2.1]; simp only; omega)
        rw [seg_len HM.out.2.1] at hc
        exact hc)
      have hsub : (til : Int) - (fr : Int) = ((til - fr : Nat) : Int) := by omega
      have hsz : ((til - fr : Nat) : Int) ≤ 1000000 := by omega
      have hfr : (fr : Int) ≤ 1000000 := by omega
      have HOWL := hid (fun k (e : u5.ownBlock = some k) => (HROW4.out.lt k e).2)
      clear hm1 hl1 hb0 hb1 hb2 hb3 hbz hbz2
      generalize til - fr = sz at *
      go_upto_if 60 with fail
      go_cut [13] (fun s13 wx => ∃ A c, s13 = .slice A (if kd = 0 then P else []).length c ∧ Hid (PR wx A (if kd = 0 then P else [])) ∧ Hid (Below w4.heap.size w4 wx) ∧ Hid (∀ g, A = some ⟨g, 0, none⟩ → w4.heap.size ≤ g))
      case first =>
        by_cases h0 : kd = 0
        · subst h0
          have hpd := HPD.out
          rw [if_pos rfl] at hpd
          go_wp2_with fail
          refine HCALL.out.mono ?_
          rintro e w5 ⟨v, rfl, hr5, hb5⟩
          have hlt5 := hr5.lt
          obtain ⟨A5, c5, rfl, hpr⟩ := PR.of_own hr5
          rw [← hpd] at hpr ⊢
          have HPR := hid hpr
          have HB5 := hid hb5
          have HLT5 := hid (show ∀ g, A5 = some ⟨g, 0, none⟩ → w4.heap.size ≤ g from fun g e => (hlt5 g (by rw [e]; rfl)).1)
          clear hpd hr5 hpr hb5 hlt5
          go_wp2_with fail
          go_meet
          case rel => exact ⟨A5, c5, rfl, HPR.out, HB5.out, HLT5.out⟩
        · have h0b : (kd == 0) = false := by simpa using h0
          go_wp2_with fail
          go_meet
          case rel => exact ⟨none, 0, by rw [if_neg h0]; rfl, (by rw [if_neg h0]; exact fun h => absurd h (by decide)), Below.refl _ _, fun g e => by cases e⟩
      case rest =>
        obtain ⟨A1, c1, rfl, HP1, HB5, HL5⟩ := hcut
        have z1 := (HB5.out.cell (p := ⟨Bx, 1, none⟩) hbl).trans y1
        have z2 := (HB5.out.cell (p := ⟨Bx, 2, none⟩) hbl).trans y2
        have z0 := (HB5.out.cell (p := ⟨Bx, 0, none⟩) hbl).trans y0
        have z4 := (HB5.out.cell (p := ⟨Bx, 4, none⟩) hbl).trans y4
        have HZC := hid (fun W (h : Below w4.heap.size w4 W) => And.intro ((h.cell (p := ⟨Bx, 1, none⟩) hbl).trans y1) (HN4.out.below h HN4.out.lt))
        clear y0 y1 y2 y3 y4 y5 n0 n1 n2 nf HCALL hsl
        go_upto_if 70 with fail
        go_cut [13] (fun s13 wx => ∃ A c, s13 = .slice A P.length c ∧ Hid (PR wx A P) ∧ Hid (Below w4.heap.size w4 wx) ∧ Hid (∀ g, A = some ⟨g, 0, none⟩ → w4.heap.size ≤ g))
        case first =>
          by_cases h1 : kd = 1
          · subst h1
            have hpd := HPD.out
            rw [if_neg (by decide), if_pos rfl] at hpd
            have hbk := Blk.new wc 84 #[.int .i32 r, .int .i64 sz, .bool false]
            have HPR := hid (show PR (wc.alloc (.cells #[.int .i32 r, .int .i64 sz, .bool false] 84)) (some ⟨wc.heap.size, 0, none⟩) P from fun _ => ⟨_, rfl, hbk.lt, fun j hj => by
              rw [hpd] at hj
              obtain rfl : j = 0 := by simp at hj; omega
              subst hpd
              exact ⟨hbk.cell 0, hbk.cell 1⟩⟩)
            have hpl : P.length = 1 := by rw [hpd]; rfl
            have HB6 := hid (HB5.out.alloc HB5.out.size (.cells #[.int .i32 r, .int .i64 sz, .bool false] 84))
            have HSZ5 := hid HB5.out.size
            clear hbk hpd
            go_wp2_with fail
            go_meet
            case rel => exact ⟨_, _, by rw [hpl], HPR.out, HB6.out, fun g e => by cases e; exact HSZ5.out⟩
          · have h1b : (kd == 1) = false := by simpa using h1
            have hpd := HPD.out
            have hpe : (if kd = 0 then P else []) = P := by
              split
              · rfl
              · rename_i h0
                rw [if_neg h0, if_neg h1] at hpd
                exact hpd.symm
            rw [hpe] at HP1 ⊢
            clear hpd
            go_wp2_with fail
            go_meet
            case rel => exact ⟨A1, c1, rfl, HP1.out, HB5.out, HL5.out⟩
        case rest =>
          obtain ⟨A2, c2, rfl, HP2, HB6, HL6⟩ := hcut
          clear z0 z1 z2 z4 HP1 HB5 HL5
          obtain ⟨z1, hnc⟩ := HZC.out wc HB6.out
          have HNC := hid hnc
          have HROWC := hid (owns_below HROW4.out HB6.out)
          have HBC := hid (HBR4.out.trans (HB6.out.mono (Nat.le_of_lt hsz4)))
          have HNE := hid (show ∀ g, A2 = some ⟨g, 0, none⟩ → u5.ownBlock ≠ some g from fun g e e2 => by
            have h1 := HL6.out g e
            have h2 := HOWL.out g e2
            omega)
          have hok := HOKI.out.1
          simp only at hok
          have HH0 := hid (show ¬ 0 < h → h = 0 by omega)
          have hpl : P.length ≤ 1000000 := by have := HPL2.out; omega
          clear hnc hok
          go_wp2_with fail
          generalize hpn : P.length = m at *
          have HPN := hid hpn
          clear hpn
          go_loopg [5, 6, 7, 14, 15] m (fun kx s5 s6 s7 s14 s15 wz => ∃ (v : Value) (j a : Nat), s5 = v ∧ s6 = .bool (fo && (P.take j).isEmpty) ∧ s7 = .bool (ch && (P.take j).isEmpty) ∧ s14 = .int .i64 (fr + a : Nat) ∧ s15 = .int .i64 j ∧ j ≤ m ∧ m - j ≤ kx ∧ Hid (0 < h → j = 0) ∧ Hid (chainP a (P.drop j) sz) ∧ Hid (PR wz A2 P) ∧ Hid (Blk wz Bn 76 #[.int .i64 h, .int .i64 p, .int .i64 b']) ∧ Hid (wz.ownsRow (Bn + 1) 39 7 v (its.length + j) (itCells (its ++ pcIts fr fo ch (decide (0 < b')) (decide (0 < p)) (P.take j)))) ∧ Hid (∀ g, A2 = some ⟨g, 0, none⟩ → v.ownBlock ≠ some g) ∧ Hid (Below Bn w2 wz))
          case atStart => exact ⟨_, 0, 0, rfl, by simp, by simp, rfl, rfl, Nat.zero_le _, Nat.le_refl _, fun _ => rfl, HPC.out, HP2.out, HNC.out, by show World.ownsRow _ _ _ _ _ _ _; rw [List.take_zero]; show World.ownsRow _ _ _ _ _ _ (itCells (its ++ [])); rw [List.append_nil]; exact HROWC.out, HNE.out, HBC.out⟩
          case round =>
            obtain ⟨v, j, a, rfl, rfl, rfl, rfl, rfl, hj, hgj, HJ0, HCP, HPR, HNZ, HRZ, HNEZ, HBZZ⟩ := hrel
            have n0 := HNZ.out.cell 0
            have n1 := HNZ.out.cell 1
            have n2 := HNZ.out.cell 2
            simp only [List.getElem?_toArray, List.getElem?_cons_zero, List.getElem?_cons_succ] at n0 n1 n2
            by_cases hlj : j < m
            · have hlj' : (j : Int) < (m : Int) := by omega
              by_cases hh : 0 < h
              · have hj0 := HJ0.out hh
                subst hj0
                have hhb : (h == 0) = false := by simp; omega
                have HEI := hid (HEXI.out.trans (by rw [HEH.out hh] : _ = ((⟨⟨h, p, b'⟩, fo, ch⟩ : Xs), its ++ ([] : List It))))
                simp only [List.take_zero, List.isEmpty_nil, Bool.and_true] at *
                have HRZ2 := hid (show wr.ownsRow (Bn + 1) 39 7 u5 (its ++ ([] : List It)).length (itCells (its ++ [])) from by
                  have := HRZ.out
                  rw [List.append_nil]
                  have h2 : pcIts fr fo ch (decide (0 < b')) (decide (0 < p)) ([] : List S1.Pc) = [] := rfl
                  rw [h2, List.append_nil] at this
                  exact this)
                go_wp2_with fail
                go_roundg (n - (i + 1))
                case measure => omega
                case rel => exact ⟨u5, i + 1, rfl, by rw [← HST2.out, HEI.out], by rw [← HST2.out, HEI.out], by go_num, by omega, Nat.le_refl _, by show World.ownsRow _ _ _ _ _ _ _; rw [← HST2.out, HEI.out]; exact HRZ2.out, by show Blk _ _ _ _; rw [← HST2.out, HEI.out]; exact HNZ.out, HBZZ.out⟩
              · have h0 := HH0.out (by omega)
                subst h0
                have HEI := hid (HEXI.out.trans (by rw [HES.out (by omega)] : _ = ((⟨⟨0, p, b'⟩, fo && P.isEmpty, ch && P.isEmpty⟩ : Xs), its ++ pcIts fr fo ch (decide (0 < b')) (decide (0 < p)) P)))
                have hlen : its.length + m ≤ 1000000 := by
                  have h1 := HPLI.out
                  rw [HEI.out] at h1
                  simp only [List.length_append, pcIts_len] at h1
                  have := HLS.out
                  have := HPN.out
                  omega
                have hjl : j < P.length := by rw [HPN.out]; exact hlj
                obtain ⟨gP, rfl, hgP, hz⟩ := HPR.out (by omega)
                obtain ⟨c0, c1⟩ := hz j hjl
                have hcp := HCP.out
                rw [List.drop_eq_getElem_cons hjl] at hcp
                obtain ⟨hat, hch⟩ := hcp
                have hcl := chainP_le _ _ _ hch
                have htk : P.take (j + 1) = P.take j ++ [P[j]] := by rw [List.take_add_one, List.getElem?_eq_getElem hjl]; rfl
                have HSN := hid (pcIts_snoc fr (decide (0 < b')) (decide (0 < p)) P[j] (P.take j) fo ch)
                have HEM := hid (isEmpty_snoc (P.take j) P[j])
                rw [← htk] at HSN HEM
                rw [hat] at HSN
                have HCH := hid hch
                have HPRZ := hid (fun W (row : Option Nat) (hg : wr.grownBy W row) (hne : row ≠ some gP) => And.intro (HPR.out.grown hg (fun g e => by cases e; exact fun e2 => hne e2.symm)) (HNZ.out.grown hg))
                have HPC9 := hid (fun W (hp : PR W (some ⟨gP, 0, none⟩) P) => show (W.cell? ⟨gP, j * 3, none⟩ = some (.int .i32 P[j].r) ∧ W.cell? ⟨gP, j * 3 + 1, none⟩ = some (.int .i64 P[j].size)) ∧ gP < W.heap.size from by
                  obtain ⟨g9, e9, hg9, hz9⟩ := hp (by omega)
                  cases e9
                  exact ⟨hz9 j hjl, hg9⟩)
                have hsum : ((fr + a : Nat) : Int) + (P[j].size : Int) = ((fr + (a + P[j].size) : Nat) : Int) := by omega
                have hbnd : ((fr + (a + P[j].size) : Nat) : Int) ≤ 2000000 := by omega
                have hgPl := hgP
                generalize P[j] = q at *
                obtain ⟨qa, qz, qr, qw⟩ := q
                simp only at c0 c1 HSN HCH hsum hbnd HPC9
                generalize (P.take j).isEmpty = em at *
                obtain ⟨a2, ha2⟩ : ∃ a2, a2 = fr + (a + qz) := ⟨_, rfl⟩
                rw [← ha2] at hsum hbnd
                have HA2 := hid ha2
                clear ha2
                generalize fr + a = a1 at *
                clear hat hch htk hcl hz
                generalize (fo && em) = f1 at *
                generalize (ch && em) = c1' at *
                go_upto_region 23 with fail
                have hBl := HNZ.out.lt
                refine wp_region_held_drew (S := fun w' : World => w'.cell? ⟨gP, j * 3, none⟩ = some (.int .i32 qr) ∧ w'.cell? ⟨gP, j * 3 + 1, none⟩ = some (.int .i64 qz) ∧ w'.cell? ⟨Bn, 1, none⟩ = some (.int .i64 p) ∧ w'.cell? ⟨Bn, 2, none⟩ = some (.int .i64 b') ∧ gP < w'.heap.size ∧ Bn < w'.heap.size) (by kernel_rfl) ⟨c0, c1, n1, n2, hgP, hBl⟩ (fun hHeld => ?_)
                clear c0 c1 n0 n1 n2 hgP hBl
                refine wpAnyH_take (i := 0) (v := ?hv1) rfl (by kernel_rfl) (by kernel_rfl) (by kernel_rfl) (fun _ _ _ h => h) (Or.inl ⟨by rfl, ?hy1⟩) (by assumption) ?hr1
                case hy1 => (intro w hSw; (try dsimp only at hSw); go_simp; try with_reducible rfl)
                (try simp only [Act.put, List.getElem_toArray, List.getElem_cons_zero, List.setIfInBounds_toArray, List.set_cons_zero, List.set_cons_succ])
                refine wpAnyH_take (i := 1) (v := ?hv2) rfl (by kernel_rfl) (by kernel_rfl) (by kernel_rfl) (fun _ _ _ h => h) (Or.inl ⟨by rfl, ?hy2⟩) (by assumption) ?hr2
                case hy2 => (intro w hSw; (try dsimp only at hSw); go_simp; try with_reducible rfl)
                (try simp only [Act.put, List.getElem_toArray, List.getElem_cons_zero, List.getElem_cons_succ, List.setIfInBounds_toArray, List.set_cons_zero, List.set_cons_succ])
                refine wpAnyH_take (i := 2) (v := ?hv3) rfl (by kernel_rfl) (by kernel_rfl) (by kernel_rfl) (fun _ _ _ h => h) (Or.inl ⟨by rfl, ?hy3⟩) (by assumption) ?hr3
                case hy3 => (intro w hSw; (try dsimp only at hSw); go_simp; try with_reducible rfl)
                (try simp only [Act.put, List.getElem_toArray, List.getElem_cons_zero, List.getElem_cons_succ, List.setIfInBounds_toArray, List.set_cons_zero, List.set_cons_succ])
                refine wpAnyH_take (i := 3) (v := ?hv4) rfl (by kernel_rfl) (by kernel_rfl) (by kernel_rfl) (fun _ _ _ h => h) (Or.inl ⟨by rfl, ?hy4⟩) (by assumption) ?hr4
                case hy4 => (intro w hSw; (try dsimp only at hSw); go_simp; try with_reducible rfl)
                (try simp only [Act.put, List.getElem_toArray, List.getElem_cons_zero, List.getElem_cons_succ, List.setIfInBounds_toArray, List.set_cons_zero, List.set_cons_succ])
                refine wpAnyH_take (i := 4) (v := ?hv5) rfl (by kernel_rfl) (by kernel_rfl) (by kernel_rfl) (fun _ _ _ h => h) (Or.inl ⟨by rfl, ?hy5⟩) (by assumption) ?hr5
                case hy5 => (intro w hSw; (try dsimp only at hSw); go_simp; try with_reducible rfl)
                (try simp only [Act.put, List.getElem_toArray, List.getElem_cons_zero, List.getElem_cons_succ, List.setIfInBounds_toArray, List.set_cons_zero, List.set_cons_succ])
                refine wpAnyH_take (i := 5) (v := ?hv6) rfl (by kernel_rfl) (by kernel_rfl) (by kernel_rfl) (fun _ _ _ h => h) (Or.inl ⟨by rfl, ?hy6⟩) (by assumption) ?hr6
                case hy6 => (intro w hSw; (try dsimp only at hSw); go_simp; try with_reducible rfl)
                (try simp only [Act.put, List.getElem_toArray, List.getElem_cons_zero, List.getElem_cons_succ, List.setIfInBounds_toArray, List.set_cons_zero, List.set_cons_succ])
                refine wpAnyH_take (i := 6) (v := ?hv7) rfl (by kernel_rfl) (by kernel_rfl) (by kernel_rfl) (fun _ _ _ h => h) (Or.inl ⟨by rfl, ?hy7⟩) (by assumption) ?hr7
                case hy7 => (intro w hSw; (try dsimp only at hSw); go_simp; try with_reducible rfl)
                (try simp only [Act.put, List.getElem_toArray, List.getElem_cons_zero, List.getElem_cons_succ, List.setIfInBounds_toArray, List.set_cons_zero, List.set_cons_succ])
                refine wpAnyH_take (i := 7) (v := ?hv8) rfl (by kernel_rfl) (by kernel_rfl) (by kernel_rfl) (fun _ _ _ h => h) (Or.inl ⟨by rfl, ?hy8⟩) (by assumption) ?hr8
                case hy8 => (intro w hSw; (try dsimp only at hSw); go_simp; try with_reducible rfl)
                (try simp only [Act.put, List.getElem_toArray, List.getElem_cons_zero, List.getElem_cons_succ, List.setIfInBounds_toArray, List.set_cons_zero, List.set_cons_succ])
                refine wpAnyH_take (i := 8) (v := ?hv9) rfl (by kernel_rfl) (by kernel_rfl) (by kernel_rfl) (fun _ _ _ h => h) (Or.inl ⟨by rfl, ?hy9⟩) (by assumption) ?hr9
                case hy9 => (intro w hSw; (try dsimp only at hSw); go_simp; try with_reducible rfl)
                (try simp only [Act.put, List.getElem_toArray, List.getElem_cons_zero, List.getElem_cons_succ, List.setIfInBounds_toArray, List.set_cons_zero, List.set_cons_succ])
                refine wpAnyH_take (i := 9) (v := ?hv10) rfl (by kernel_rfl) (by kernel_rfl) (by kernel_rfl) (fun _ _ _ h => h) (Or.inl ⟨by rfl, ?hy10⟩) (by assumption) ?hr10
                case hy10 => (intro w hSw; (try dsimp only at hSw); go_simp; try with_reducible rfl)
                (try simp only [Act.put, List.getElem_toArray, List.getElem_cons_zero, List.getElem_cons_succ, List.setIfInBounds_toArray, List.set_cons_zero, List.set_cons_succ])
                refine wpAnyH_take (i := 10) (v := ?hv11) rfl (by kernel_rfl) (by kernel_rfl) (by kernel_rfl) (fun _ _ _ h => h) (Or.inl ⟨by rfl, ?hy11⟩) (by assumption) ?hr11
                case hy11 => (intro w hSw; (try dsimp only at hSw); go_simp; try with_reducible rfl)
                (try simp only [Act.put, List.getElem_toArray, List.getElem_cons_zero, List.getElem_cons_succ, List.setIfInBounds_toArray, List.set_cons_zero, List.set_cons_succ])
                refine wpAnyH_take (i := 11) (v := ?hv12) rfl (by kernel_rfl) (by kernel_rfl) (by kernel_rfl) (fun _ _ _ h => h) (Or.inl ⟨by rfl, ?hy12⟩) (by assumption) ?hr12
                case hy12 => (intro w hSw; (try dsimp only at hSw); go_simp; try with_reducible rfl)
                (try simp only [Act.put, List.getElem_toArray, List.getElem_cons_zero, List.getElem_cons_succ, List.setIfInBounds_toArray, List.set_cons_zero, List.set_cons_succ])
                refine wpAnyH_take (i := 12) (v := ?hv13) rfl (by kernel_rfl) (by kernel_rfl) (by kernel_rfl) (fun _ _ _ h => h) (Or.inl ⟨by rfl, ?hy13⟩) (by assumption) ?hr13
                case hy13 => (intro w hSw; (try dsimp only at hSw); go_simp; try with_reducible rfl)
                (try simp only [Act.put, List.getElem_toArray, List.getElem_cons_zero, List.getElem_cons_succ, List.setIfInBounds_toArray, List.set_cons_zero, List.set_cons_succ])
                refine wpAnyH_take (i := 13) (v := ?hv14) rfl (by kernel_rfl) (by kernel_rfl) (by kernel_rfl) (fun _ _ _ h => h) (Or.inl ⟨by rfl, ?hy14⟩) (by assumption) ?hr14
                case hy14 => (intro w hSw; (try dsimp only at hSw); go_simp; try with_reducible rfl)
                (try simp only [Act.put, List.getElem_toArray, List.getElem_cons_zero, List.getElem_cons_succ, List.setIfInBounds_toArray, List.set_cons_zero, List.set_cons_succ])
                refine wpAnyH_take (i := 14) (v := ?hv15) rfl (by kernel_rfl) (by kernel_rfl) (by kernel_rfl) (fun _ _ _ h => h) (Or.inl ⟨by rfl, ?hy15⟩) (by assumption) ?hr15
                case hy15 => (intro w hSw; (try dsimp only at hSw); go_simp; try with_reducible rfl)
                (try simp only [Act.put, List.getElem_toArray, List.getElem_cons_zero, List.getElem_cons_succ, List.setIfInBounds_toArray, List.set_cons_zero, List.set_cons_succ])
                refine wpAnyH_take (i := 15) (v := ?hv16) rfl (by kernel_rfl) (by kernel_rfl) (by kernel_rfl) (fun _ _ _ h => h) (Or.inl ⟨by rfl, ?hy16⟩) (by assumption) ?hr16
                case hy16 => (intro w hSw; (try dsimp only at hSw); go_simp; try with_reducible rfl)
                (try simp only [Act.put, List.getElem_toArray, List.getElem_cons_zero, List.getElem_cons_succ, List.setIfInBounds_toArray, List.set_cons_zero, List.set_cons_succ])
                refine wpAnyH_take (i := 16) (v := ?hv17) rfl (by kernel_rfl) (by kernel_rfl) (by kernel_rfl) (fun _ _ _ h => h) (Or.inl ⟨by rfl, ?hy17⟩) (by assumption) ?hr17
                case hy17 => (intro w hSw; (try dsimp only at hSw); go_simp; try with_reducible rfl)
                (try simp only [Act.put, List.getElem_toArray, List.getElem_cons_zero, List.getElem_cons_succ, List.setIfInBounds_toArray, List.set_cons_zero, List.set_cons_succ])
                refine wpAnyH_take (i := 17) (v := ?hv18) rfl (by kernel_rfl) (by kernel_rfl) (by kernel_rfl) (fun _ _ _ h => h) (Or.inl ⟨by rfl, ?hy18⟩) (by assumption) ?hr18
                case hy18 => (intro w hSw; (try dsimp only at hSw); go_simp; try with_reducible rfl)
                (try simp only [Act.put, List.getElem_toArray, List.getElem_cons_zero, List.getElem_cons_succ, List.setIfInBounds_toArray, List.set_cons_zero, List.set_cons_succ])
                refine wpAnyH_take (i := 18) (v := ?hv19) rfl (by kernel_rfl) (by kernel_rfl) (by kernel_rfl) (fun _ _ _ h => h) (Or.inl ⟨by rfl, ?hy19⟩) (by assumption) ?hr19
                case hy19 => (intro w hSw; (try dsimp only at hSw); go_simp; try with_reducible rfl)
                (try simp only [Act.put, List.getElem_toArray, List.getElem_cons_zero, List.getElem_cons_succ, List.setIfInBounds_toArray, List.set_cons_zero, List.set_cons_succ])
                refine wpAnyH_take (i := 19) (v := ?hv20) rfl (by kernel_rfl) (by kernel_rfl) (by kernel_rfl) (fun _ _ _ h => h) (Or.inl ⟨by rfl, ?hy20⟩) (by assumption) ?hr20
                case hy20 => (intro w hSw; (try dsimp only at hSw); go_simp; try with_reducible rfl)
                (try simp only [Act.put, List.getElem_toArray, List.getElem_cons_zero, List.getElem_cons_succ, List.setIfInBounds_toArray, List.set_cons_zero, List.set_cons_succ])
                refine wpAnyH_take (i := 20) (v := ?hv21) rfl (by kernel_rfl) (by kernel_rfl) (by kernel_rfl) (fun _ _ _ h => h) (Or.inl ⟨by rfl, ?hy21⟩) (by assumption) ?hr21
                case hy21 => (intro w hSw; (try dsimp only at hSw); go_simp; try with_reducible rfl)
                (try simp only [Act.put, List.getElem_toArray, List.getElem_cons_zero, List.getElem_cons_succ, List.setIfInBounds_toArray, List.set_cons_zero, List.set_cons_succ])
                refine wpAnyH_ready (rs := [21]) (by kernel_rfl) (by simp) ?_
                refine AllReadyH.cons rfl (fun K hK => ?_) AllReadyH.nil
                rw [if_pos (by kernel_rfl)]
                go_simp
                have HBK := hid (Blk.new wr 39 #[.int .i32 qr, .int .i64 a1, .int .i64 qz, .bool f1, .bool c1', .bool (decide (0 < b')), .bool (decide (0 < p))])
                have HRA := hid (HRZ.out.alloc (.cells #[.int .i32 qr, .int .i64 a1, .int .i64 qz, .bool f1, .bool c1', .bool (decide (0 < b')), .bool (decide (0 < p))] 39))
                have HBA2 := hid (HBZZ.out.alloc (Nat.le_of_lt HNZ.out.lt) (.cells #[.int .i32 qr, .int .i64 a1, .int .i64 qz, .bool f1, .bool c1', .bool (decide (0 < b')), .bool (decide (0 < p))] 39))
                have HGA := hid (World.grownBy_alloc wr (.cells #[.int .i32 qr, .int .i64 a1, .int .i64 qz, .bool f1, .bool c1', .bool (decide (0 < b')), .bool (decide (0 < p))] 39) u5.ownBlock)
                obtain ⟨k0, k1, k2, k3, k4, k5⟩ := hHeld
                refine hK.out _ _ ⟨cell_alloc_of _ k4 k0, cell_alloc_of _ k4 k1, cell_alloc_of _ k5 k2, cell_alloc_of _ k5 k3, by simp; exact Nat.lt_succ_of_lt k4, by simp; exact Nat.lt_succ_of_lt k5⟩ (fun hHeld2 => ?_)
                clear hK K k0 k1 k2 k3
                refine wpAnyH_ready (rs := [22]) (by kernel_rfl) (by simp) ?_
                refine AllReadyH.cons rfl (fun K hK => ?_) AllReadyH.nil
                rw [if_pos (by kernel_rfl)]
                have HLTV := hid (fun k (e : u5.ownBlock = some k) => HRZ.out.lt k e)
                have hszw : Bn + 1 ≤ (wr.alloc (.cells #[.int .i32 qr, .int .i64 a1, .int .i64 qz, .bool f1, .bool c1', .bool (decide (0 < b')), .bool (decide (0 < p))] 39)).drew.heap.size := by
                  have := hHeld2.2.2.2.2.2
                  exact this
                refine wp_append_any _ (.tmp 93) (.tmp 114) 36 rfl (Bn + 1) 39 i0 (.agg it0) 7 32 Tryz.underlying36 hi hz0 hz1 hz2 rfl (by decide) u5 (its.length + j) _ rfl HRA.out.drew _ (some ⟨wr.heap.size, 0, none⟩) 1 1 [.int .i32 qr, .int .i64 a1, .int .i64 qz, .bool f1, .bool c1', .bool (decide (0 < b')), .bool (decide (0 < p))] rfl (reads_row HBK.out.drew rfl) (by simp [Value.oneCell']) (by unfold maxLen; omega) (by omega) hszw ?_
                intro v6 w6 hown6 hgrow6 hor6
                have HOWN6 := hid hown6
                have HGW := hid (HGA.out.trans ((⟨rfl, rfl, rfl, Nat.le_refl _, fun _ _ _ => rfl⟩ : (wr.alloc (.cells #[.int .i32 qr, .int .i64 a1, .int .i64 qz, .bool f1, .bool c1', .bool (decide (0 < b')), .bool (decide (0 < p))] 39)).grownBy (wr.alloc (.cells #[.int .i32 qr, .int .i64 a1, .int .i64 qz, .bool f1, .bool c1', .bool (decide (0 < b')), .bool (decide (0 < p))] 39)).drew u5.ownBlock).trans hgrow6))
                have HNE6 := hid (show v6.ownBlock ≠ some gP from by
                  rcases hor6 with e | e
                  · rw [e]; exact HNEZ.out gP rfl
                  · rw [e]
                    intro e2
                    have e3 : (wr.alloc (.cells #[.int .i32 qr, .int .i64 a1, .int .i64 qz, .bool f1, .bool c1', .bool (decide (0 < b')), .bool (decide (0 < p))] 39)).drew.heap.size = gP := by injection e2
                    have h9 : wr.heap.size + 1 = gP := by rw [← e3]; exact (World.size_alloc _ _).symm
                    omega)
                obtain ⟨hpr6, hbn6⟩ := HPRZ.out w6 u5.ownBlock HGW.out (HNEZ.out gP rfl)
                have hn6w := hbn6 (fun e => by have := (HLTV.out Bn e.symm).1; omega)
                have HN6 := hid hn6w
                have HPR6 := hid hpr6
                have HBW6 := hid (HBZZ.out.grown HGW.out (Nat.le_of_lt HNZ.out.lt) (fun k e => by have := (HLTV.out k e).1; omega))
                obtain ⟨⟨c0, c1⟩, hg9⟩ := HPC9.out w6 hpr6
                have m0 := HN6.out.cell 0
                have m1 := HN6.out.cell 1
                have m2 := HN6.out.cell 2
                simp only [List.getElem?_toArray, List.getElem?_cons_zero, List.getElem?_cons_succ] at m0 m1 m2
                clear hown6 hgrow6 hor6 hbn6 hn6w hpr6
                refine hK.out _ _ ⟨c0, c1, m1, m2, hg9, HN6.out.lt⟩ (fun hHeld3 => ?_)
                clear hK K hHeld2 k4 k5
                refine wpAnyH_take (i := 23) (v := ?hv22) rfl (by kernel_rfl) (by kernel_rfl) (by kernel_rfl) (fun _ _ _ h => h) (Or.inl ⟨by rfl, ?hy22⟩) (by assumption) ?hr22
                case hy22 => (intro w hSw; (try dsimp only at hSw); go_simp; try with_reducible rfl)
                (try simp only [Act.put, List.getElem_toArray, List.getElem_cons_zero, List.getElem_cons_succ, List.setIfInBounds_toArray, List.set_cons_zero, List.set_cons_succ])
                refine wpAnyH_done (by kernel_rfl) ?_ _
                clear hHeld3 hszw
                go_wp2_with fail
                go_roundg (m - (j + 1))
                case measure => omega
                case rel => exact ⟨v6, j + 1, a + qz, rfl, by rw [HEM.out, Bool.and_false], by rw [HEM.out, Bool.and_false], by rw [HA2.out], by go_num, by omega, Nat.le_refl _, fun h => absurd h (by decide), HCH.out, HPR6.out, HN6.out, by show World.ownsRow _ _ _ _ _ _ _; rw [HSN.out, ← List.append_assoc, itCells_snoc]; exact HOWN6.out, fun g e => by cases e; exact HNE6.out, HBW6.out⟩
            · obtain rfl : j = m := by omega
              have htake : P.take j = P := by rw [← HPN.out, List.take_length]
              have HEI := hid (show st2 = ((⟨⟨h, p, b'⟩, fo && P.isEmpty, ch && P.isEmpty⟩ : Xs), its ++ pcIts fr fo ch (decide (0 < b')) (decide (0 < p)) P) from by
                by_cases hh : 0 < h
                · have hj0 := HJ0.out hh
                  have hp0 : P = [] := List.eq_nil_of_length_eq_zero (by rw [HPN.out]; exact hj0)
                  rw [HEXI.out, HEH.out hh, hp0]
                  simp [pcIts]
                · rw [HEXI.out, HES.out (by omega)])
              rw [htake] at HRZ ⊢
              have HRZ2 := hid (show wr.ownsRow (Bn + 1) 39 7 u5 (its ++ pcIts fr fo ch (decide (0 < b')) (decide (0 < p)) P).length (itCells (its ++ pcIts fr fo ch (decide (0 < b')) (decide (0 < p)) P)) from by
                rw [List.length_append, pcIts_len, HPN.out]
                exact HRZ.out)
              have hlj' : ¬ (j : Int) < (j : Int) := by omega
              clear hlj htake
              generalize (fo && P.isEmpty) = f9 at *
              generalize (ch && P.isEmpty) = c9 at *
              go_wp2_with fail
              go_roundg (n - (i + 1))
              case measure => omega
              case rel => exact ⟨u5, i + 1, rfl, by rw [← HST2.out, HEI.out], by rw [← HST2.out, HEI.out], by go_num, by omega, Nat.le_refl _, by show World.ownsRow _ _ _ _ _ _ _; rw [← HST2.out, HEI.out]; exact HRZ2.out, by show Blk _ _ _ _; rw [← HST2.out, HEI.out]; exact HNZ.out, HBZZ.out⟩
    · obtain rfl : i = n := by omega
      have HEND := hid (show exGo s xs0 ((toks s).take i) = exGo s xs0 (toks s) by rw [HN.out, List.take_length])
      rw [HEND.out] at HROW
      clear hlt hn6
      go_wp2
      go_ret
      exact ⟨_, rfl, owns_base HROW.out (Nat.le_succ_of_le HNB.out.2), HBW.out⟩
end Go.Proofs.YtlfbgaknljdanaaGreatDoor

/- out of ExO -/
namespace Go.Proofs.YtlfbgaknljdanaaGreatDoor
open Go.RowKit Go.Shelf
open Go.Lib (hid)
set_option linter.unusedVariables false
set_option linter.unusedSimpArgs false
set_option maxRecDepth 100000

set_option maxHeartbeats 8000000 in
theorem itemsIs_any (A A' : Option Addr) (n cap cap' : Nat) (l : List It) (w : World) (h1 : IR w A n l) (h2 : IR w A' n l) (hn : n ≤ 1000000) :
    Calls Tryz.prog 19 #[.slice A n cap, .slice A' n cap'] w fun e w' => e = .returned (.bool true) ∧ Below w.heap.size w w' := by
  have HM := hid h1.1
  have H1 := hid h1
  have H2 := hid h2
  clear h1 h2
  go_enter Tryz.func19, Tryz.ntmps19
  go_wp2_with fail
  go_loopg [5] n (fun kx s5 wr => ∃ i : Nat, s5 = .int .i64 i ∧ i ≤ n ∧ n - i ≤ kx ∧ Hid (Below w.heap.size w wr))
  case atStart => exact ⟨0, rfl, Nat.zero_le _, Nat.le_refl _, Below.refl _ _⟩
  case round =>
    obtain ⟨i, rfl, hi, hg, HB⟩ := hrel
    by_cases hlt : i < n
    · have hlt' : (i : Int) < (n : Int) := by omega
      have hil : i < l.length := by rw [← HM.out]; exact hlt
      obtain ⟨g, rfl, hgl, x0, x1, x2, x3, x4, x5, x6⟩ := (H1.out.below HB.out (Nat.le_refl _)).at_ hil
      obtain ⟨d, rfl, hdl, y0, y1, y2, y3, y4, y5, y6⟩ := (H2.out.below HB.out (Nat.le_refl _)).at_ hil
      generalize l[i] = t at *
      obtain ⟨tr, ta, tz, tf, tc, tn, tp⟩ := t
      simp only at x0 x1 x2 x3 x4 x5 x6 y0 y1 y2 y3 y4 y5 y6
      have hs := HB.out.size
      go_upto_region 6 with fail
      go_region
      · have q1 := ((Blk.new wr 34 #[.int .i32 tr, .int .i64 ta, .int .i64 tz, .bool tf, .bool tc, .bool tn, .bool tp]).alloc (.cells #[.int .i32 tr, .int .i64 ta, .int .i64 tz, .bool tf, .bool tc, .bool tn, .bool tp] 39)).drew
        have q2 := (Blk.new (wr.alloc (.cells #[.int .i32 tr, .int .i64 ta, .int .i64 tz, .bool tf, .bool tc, .bool tn, .bool tp] 34)) 39 #[.int .i32 tr, .int .i64 ta, .int .i64 tz, .bool tf, .bool tc, .bool tn, .bool tp]).drew
        rw [World.size_alloc] at q2
        have a0 := q1.cell 0
        have a1 := q1.cell 1
        have a2 := q1.cell 2
        have a3 := q1.cell 3
        have a4 := q1.cell 4
        have a5 := q1.cell 5
        have a6 := q1.cell 6
        have b0 := q2.cell 0
        have b1 := q2.cell 1
        have b2 := q2.cell 2
        have b3 := q2.cell 3
        have b4 := q2.cell 4
        have b5 := q2.cell 5
        have b6 := q2.cell 6
        simp only [List.getElem?_toArray, List.getElem?_cons_zero, List.getElem?_cons_succ] at a0 a1 a2 a3 a4 a5 a6 b0 b1 b2 b3 b4 b5 b6
        have HB7 := hid (((HB.out.alloc hs (.cells #[.int .i32 tr, .int .i64 ta, .int .i64 tz, .bool tf, .bool tc, .bool tn, .bool tp] 34)).alloc (by simp; omega) (.cells #[.int .i32 tr, .int .i64 ta, .int .i64 tz, .bool tf, .bool tc, .bool tn, .bool tp] 39)).drew)
        clear q1 q2 x0 x1 x2 x3 x4 x5 x6 y0 y1 y2 y3 y4 y5 y6
        generalize ((wr.alloc (.cells #[.int .i32 tr, .int .i64 ta, .int .i64 tz, .bool tf, .bool tc, .bool tn, .bool tp] 34)).alloc (.cells #[.int .i32 tr, .int .i64 ta, .int .i64 tz, .bool tf, .bool tc, .bool tn, .bool tp] 39)).drew = w7 at *
        go_wp2_with fail
        go_roundg (n - (i + 1))
        case measure => omega
        case rel => exact ⟨i + 1, by go_num, by omega, Nat.le_refl _, HB7.out⟩
      · have q1 := ((Blk.new wr 39 #[.int .i32 tr, .int .i64 ta, .int .i64 tz, .bool tf, .bool tc, .bool tn, .bool tp]).alloc (.cells #[.int .i32 tr, .int .i64 ta, .int .i64 tz, .bool tf, .bool tc, .bool tn, .bool tp] 34)).drew
        have q2 := (Blk.new (wr.alloc (.cells #[.int .i32 tr, .int .i64 ta, .int .i64 tz, .bool tf, .bool tc, .bool tn, .bool tp] 39)) 34 #[.int .i32 tr, .int .i64 ta, .int .i64 tz, .bool tf, .bool tc, .bool tn, .bool tp]).drew
        rw [World.size_alloc] at q2
        have a0 := q1.cell 0
        have a1 := q1.cell 1
        have a2 := q1.cell 2
        have a3 := q1.cell 3
        have a4 := q1.cell 4
        have a5 := q1.cell 5
        have a6 := q1.cell 6
        have b0 := q2.cell 0
        have b1 := q2.cell 1
        have b2 := q2.cell 2
        have b3 := q2.cell 3
        have b4 := q2.cell 4
        have b5 := q2.cell 5
        have b6 := q2.cell 6
        simp only [List.getElem?_toArray, List.getElem?_cons_zero, List.getElem?_cons_succ] at a0 a1 a2 a3 a4 a5 a6 b0 b1 b2 b3 b4 b5 b6
        have HB7 := hid (((HB.out.alloc hs (.cells #[.int .i32 tr, .int .i64 ta, .int .i64 tz, .bool tf, .bool tc, .bool tn, .bool tp] 39)).alloc (by simp; omega) (.cells #[.int .i32 tr, .int .i64 ta, .int .i64 tz, .bool tf, .bool tc, .bool tn, .bool tp] 34)).drew)
        clear q1 q2 x0 x1 x2 x3 x4 x5 x6 y0 y1 y2 y3 y4 y5 y6
        generalize ((wr.alloc (.cells #[.int .i32 tr, .int .i64 ta, .int .i64 tz, .bool tf, .bool tc, .bool tn, .bool tp] 39)).alloc (.cells #[.int .i32 tr, .int .i64 ta, .int .i64 tz, .bool tf, .bool tc, .bool tn, .bool tp] 34)).drew = w7 at *
        go_wp2_with fail
        go_roundg (n - (i + 1))
        case measure => omega
        case rel => exact ⟨i + 1, by go_num, by omega, Nat.le_refl _, HB7.out⟩
    · have hlt' : ¬ (i : Int) < (n : Int) := by omega
      clear hlt hg
      go_wp2_with fail
      go_ret
      exact ⟨rfl, HB.out⟩
end Go.Proofs.YtlfbgaknljdanaaGreatDoor
