/- Chapter 03: (*builder).spread: the walk. -/
import Derived.Test.YtbkjanlkklmleaaTrA
import Derived.BigRegion
import Derived.RangeFuncBox
import Derived.BigQuiet
namespace Go.Proofs.Ytbkjanlkklmleaa
open Go.RowKit
open Go.Lib (hid)
set_option linter.unusedVariables false
set_option linter.unusedSimpArgs false
set_option maxRecDepth 100000

theorem info_intT : (Try.prog.info? 3).map (fun i => (i.zero, i.size, i.bytes)) = some (some (.int .i64 0), 1, 8) := by kernel_rfl
/-- A row of entries: each a set's slice and its class. -/
def EntR (W : World) (le n : Nat) (E : Nat → List Rg × Int) : Prop := le < W.heap.size ∧ ∀ i, i < n → ∃ A m c, W.cell? ⟨le, i * 2, none⟩ = some (.slice A m c) ∧ RR W A m c (E i).1 ∧ m ≤ 1000000 ∧ W.cell? ⟨le, i * 2 + 1, none⟩ = some (.int .i64 (E i).2)
theorem below_drew1 (B : Nat) (W : World) : Below B W W.drew := ⟨rfl, rfl, rfl, Nat.le_refl _, fun _ _ => rfl⟩
theorem grown0_of {w w' : World} (hb : Below w.heap.size w w') : w.grownBy w' none := ⟨hb.os, hb.tape, hb.output, hb.size, fun k hk _ => hb.block k hk⟩
theorem EntR.below {W W' : World} {le n : Nat} {E : Nat → List Rg × Int} (h : EntR W le n E) (hb : Below W.heap.size W W') : EntR W' le n E :=
  ⟨Nat.lt_of_lt_of_le h.1 hb.size, fun i hi => by
    obtain ⟨A, m, c, h1, h2, h3, h4⟩ := h.2 i hi
    exact ⟨A, m, c, (hb.cell (p := ⟨le, i * 2, none⟩) h.1).trans h1, h2.below hb (Nat.le_refl _), h3, (hb.cell (p := ⟨le, i * 2 + 1, none⟩) h.1).trans h4⟩⟩
theorem BdS.below {W0 W W' : World} {B g : Nat} {lv : Value} {s : Bs} {pv : Nat → Value} (h : BdS W0 W B g lv s pv) (hb : Below W.heap.size W W') (hB : B ≤ W.heap.size) : BdS W0 W' B g lv s pv :=
  ⟨h.gB, Nat.lt_of_lt_of_le h.gl hb.size, (hb.cell (p := ⟨g, 0, none⟩) h.gl).trans h.c0, fun p hp => (hb.cell (p := ⟨g, 1 + p, none⟩) h.gl).trans (h.wh p hp), fun p hp => (hb.cell (p := ⟨g, 4353 + p, none⟩) h.gl).trans (h.pt p hp), fun j => (blk_frozen (hb.block g h.gl)).trans (h.fz j), fun p hp => own_kept (h.row p hp) (grown0_of hb) (fun k _ => by simp), h.ap, h.rg, h.bel.trans (hb.mono hB)⟩
/-- Ranges of numbers that may be. -/
def okL (l : List Rg) : Prop := ∀ x ∈ l, 0 ≤ x.1 ∧ x.1 ≤ x.2 ∧ x.2 ≤ 1114111
def Spr (W0 : World) (g : Nat) (lv : Value) (E : Nat → List Rg × Int) (o : Int) (i : Nat) (e : Ending) (w' : World) : Prop :=
  e = .returned (.tuple #[]) ∧ ∃ s pv, BdS W0 w' W0.heap.size g lv s pv ∧ (∀ p, Und E o s (i + 1) p) ∧ PtOk s (i + 1)
def LastOk (s : Bs) (i : Nat) : Prop := ∀ p, (∀ k ∈ s.parts p, k < i) ∨ (s.parts p).getLast? = some i
theorem reads_n1 {w : World} {q : Nat} {t : TypeId} {x : Value} (h : Blk w q t #[x]) : Reads w w.heap.size 1 (some ⟨q, 0, none⟩) 1 [x] := by
  refine ⟨rfl, fun _ => ⟨_, rfl, h.lt, fun j u hu => ?_⟩⟩
  have e : (Addr.add ⟨q, 0, none⟩ j) = ⟨q, j, none⟩ := by unfold Addr.add; split <;> simp_all
  rw [e, h.cell j]
  simpa using hu
/-- Behind the append and its store. -/
theorem tr_fin {W0 wr w7 : World} {B g i q q4 nn : Nat} {lv v7 : Value} {s : Bs} {pv : Nat → Value} {Aq : Option Addr} {cq : Nat} {cs : Array Value} {ty : TypeId} (h : BdS W0 wr B g lv s pv) (hq : q < 4352) (hB : B ≤ wr.heap.size) (hv : pv q = .slice Aq (s.parts q).length cq) (hn : nn = (s.parts q).length)
    (hQ : Blk wr q4 ty cs) (hqg : q4 ≠ g) (hty : ty ≠ 3) (h1 : w7.ownsRow B 3 1 v7 (nn + 1) ((s.parts q).map nInt ++ [nInt i])) (h2 : wr.grownBy w7 (Value.slice Aq nn cq).ownBlock) (h3 : v7.ownBlock = (Value.slice Aq nn cq).ownBlock ∨ v7.ownBlock = some wr.heap.size) :
    BdS W0 (w7.setCell ⟨g, 4353 + q, none⟩ v7) B g lv ⟨s.whole, updN s.parts q (s.parts q ++ [i])⟩ (updN pv q v7) ∧ Blk (w7.setCell ⟨g, 4353 + q, none⟩ v7) q4 ty cs := by
  subst hn
  rw [← hv] at h2 h3
  exact ⟨h.part_ hq hB h2 h1 (h3.imp id fun e => ⟨_, e, Nat.le_refl _⟩), (hQ.grown h2 (fun e => own_blk_ne (h.row q hq) hQ (fun e => hty e.symm) e.symm)).grown (grown_set _ g _ _) (fun e => hqg (by injection e))⟩
set_option maxHeartbeats 8000000 in
theorem spread_any (W0 : World) (g le c nE i : Nat) (E : Nat → List Rg × Int) (o : Int) (s : Bs) (pv : Nat → Value) (w : World) (he : EntR W0 le nE E) (hb : BdS W0 w W0.heap.size g (.slice (some ⟨le, 0, none⟩) nE c) s pv) (hi : i < nE) (hn : nE ≤ 200) (hR : okL (E i).1) (hU : ∀ p, Und E o s i p) (hP : PtOk s i) :
    Calls Try.prog 43 #[.pointer (some ⟨g, 0, none⟩), .int .i64 i] w fun e w' => Spr W0 g (.slice (some ⟨le, 0, none⟩) nE c) E o i e w' := by
  obtain ⟨i0, hii, hz0, hz1, hz2⟩ := info_parts info_intT
  have HEN := hid (fun W (h : Below W0.heap.size W0 W) => he.below h)
  obtain ⟨A, m, cs, y0, yrr, hm, y1⟩ := he.2 i hi
  have x0 := (hb.bel.cell (p := ⟨le, i * 2, none⟩) he.1).trans y0
  have hrr := yrr
  have HRR := hid (fun W (h : Below W0.heap.size W0 W) => yrr.below h (Nat.le_refl _))
  have c0 := hb.c0
  have HB := hid hb
  have HST := hid (SpInv.start hU)
  have hii' : (i : Int) < (nE : Int) := by omega
  have HRI := hid hR
  clear he
  go_enter Try.func43, Try.ntmps43
  have hmn := hrr.1
  have HMN := hid hmn
  have hPt : PtOk s (i + 1) := fun p => ⟨(hP p).1, fun k hk => by have := (hP p).2.1 k hk; omega, by have := (hP p).2.2; omega⟩
  have HPT := hid hPt
  have HLA := hid (show LastOk s i from fun p => .inl fun k hk => (hP p).2.1 k hk)
  have HBW := hid hb.bel.size
  clear hb hR hU hP hmn hPt y1 hrr y0 yrr
  go_wp2_with fail
  go_loopg [17] m (fun kx s17 wr => ∃ (j : Nat) (s : Bs) (pv : Nat → Value), s17 = .int .i64 j ∧ j ≤ m ∧ m - j ≤ kx ∧ Hid (BdS W0 wr W0.heap.size g (.slice (some ⟨le, 0, none⟩) nE c) s pv) ∧ Hid (SpInv E o s i j 0) ∧ Hid (PtOk s (i + 1)) ∧ Hid (LastOk s i))
  case atStart => exact ⟨0, s, pv, rfl, Nat.zero_le _, Nat.le_refl _, HB.out, HST.out, HPT.out, HLA.out⟩
  case round =>
    obtain ⟨j, s, pv, rfl, hj1, hgm, HB, HSP, HPT, HLA⟩ := hrel
    obtain ⟨wo, rfl⟩ : ∃ wo, wo = wr := ⟨_, rfl⟩
    by_cases hlt : j < m
    · have hlt' : (j : Int) < (m : Int) := by omega
      have hjl : j < (E i).1.length := by rw [← HMN.out]; exact hlt
      obtain ⟨bR, oR, rfl, hbl, z0, z1⟩ := (HRR.out wo HB.out.bel).at hjl
      have hr0 := HRI.out _ (List.getElem_mem hjl)
      have HSB := hid (HSP.out.begin_ hjl)
      have HSN := hid (fun s' q (h : SpInv E o s' i j q) (hq : (E i).1[j].2 / 256 < q) => h.next hjl hq)
      have HTO := hid (fun s' (p : Nat) (h : SpInv E o s' i j p) => h.touch_ hjl)
      generalize (E i).1[j] = x at *
      obtain ⟨lo, hi2⟩ := x
      simp only at z0 z1 hr0
      obtain ⟨r1, r2, r3⟩ := hr0
      have hbk := Blk.new wo 48 #[.int .i32 lo, .int .i32 hi2]
      have hal := (Below.refl wo.heap.size wo).alloc (Nat.le_refl _) (.cells #[.int .i32 lo, .int .i32 hi2] 48)
      have HB2 := hid (HB.out.below hal HB.out.bel.size)
      have HQ := hid hbk
      have hqg : wo.heap.size ≠ g := by have := HB.out.gl; omega
      have y0 := hbk.cell 0
      have y1 := hbk.cell 1
      simp only [List.getElem?_toArray, List.getElem?_cons_zero, List.getElem?_cons_succ] at y0 y1
      clear hjl hbk
      go_upto_region 3 with fail
      generalize wo.alloc (.cells #[.int .i32 lo, .int .i32 hi2] 48) = w4 at *
      generalize wo.heap.size = q4 at *
      obtain ⟨q0, hq0⟩ : ∃ q0 : Nat, lo / 256 = (q0 : Int) := ⟨(lo / 256).toNat, by omega⟩
      have HQ0 := hid hq0
      obtain ⟨qe, hqe⟩ : ∃ qe : Nat, hi2 / 256 = (qe : Int) := ⟨(hi2 / 256).toNat, by omega⟩
      have HQE := hid hqe
      have hqb : q0 ≤ qe ∧ qe ≤ 4351 := by omega
      rw [hq0] at HSB
      go_wp2_with fail
      go_loopg [6] 4352 (fun kx s6 wr => ∃ (q : Nat) (s : Bs) (pv : Nat → Value), s6 = .int .i64 q ∧ q ≤ qe + 1 ∧ 4352 - q ≤ kx ∧ Hid (BdS W0 wr W0.heap.size g (.slice (some ⟨le, 0, none⟩) nE c) s pv) ∧ Hid (SpInv E o s i j q) ∧ Hid (PtOk s (i + 1)) ∧ Hid (LastOk s i) ∧ Hid (Blk wr q4 48 #[.int .i32 lo, .int .i32 hi2]))
      case atStart => exact ⟨q0, s, pv, rfl, by omega, by omega, HB2.out, HSB.out, HPT.out, HLA.out, HQ.out⟩
      case round =>
        obtain ⟨q, s, pv, rfl, hq1, hgq, HB3, HSP3, HPT3, HLA3, HQ3⟩ := hrel
        have y0 := HQ3.out.cell 0
        have y1 := HQ3.out.cell 1
        simp only [List.getElem?_toArray, List.getElem?_cons_zero, List.getElem?_cons_succ] at y0 y1
        by_cases hqq : q ≤ qe
        · have hqq' : (q : Int) ≤ (qe : Int) := by omega
          have hq4 : q < 4352 := by omega
          have w0 := HB3.out.wh q hq4
          have p0 := HB3.out.pt q hq4
          have f1 := HB3.out.fz (1 + q)
          have f2 := HB3.out.fz (4353 + q)
          rcases (show (lo ≤ (q : Int) * 256 ∧ (q : Int) * 256 + 255 ≤ hi2) ∨ (lo ≤ (q : Int) * 256 ∧ ¬ (q : Int) * 256 + 255 ≤ hi2) ∨ ¬ lo ≤ (q : Int) * 256 by omega) with ⟨hw1, hw2⟩ | ⟨hw1, hw2⟩ | hw1
          · have w0d : wr.drew.cell? ⟨g, 1 + q, none⟩ = _ := w0
            have p0d : wr.drew.cell? ⟨g, 4353 + q, none⟩ = _ := p0
            have f1d : wr.drew.frozen? ⟨g, 1 + q, none⟩ = _ := f1
            have f2d : wr.drew.frozen? ⟨g, 4353 + q, none⟩ = _ := f2
            have hq43 : (q : Int) < 4352 := by omega
            have htch : touch i (lo, hi2) q s = ⟨updN s.whole q (i + 1), updN s.parts q []⟩ := by unfold touch; rw [if_pos ⟨hw1, hw2⟩]
            have htc := HTO.out s q HSP3.out
            obtain ⟨hp2, hl2⟩ := HPT3.out.touch_ HLA3.out (lo, hi2) q
            rw [htch] at htc hp2 hl2
            have hw0 := HB3.out.whole_ (i := i) hq4 HB3.out.bel.size
            have hsz2 : W0.heap.size ≤ ((wr.setCell ⟨g, 1 + q, none⟩ (nInt (i + 1))).setCell ⟨g, 4353 + q, none⟩ (.slice none 0 0)).heap.size := by rw [size_set, size_set]; exact HB3.out.bel.size
            have hqk : Blk ((wr.setCell ⟨g, 1 + q, none⟩ (nInt (i + 1))).setCell ⟨g, 4353 + q, none⟩ (.slice none 0 0)) q4 48 #[.int .i32 lo, .int .i32 hi2] := (HQ3.out.grown (grown_set _ g _ _) (fun e => hqg (by injection e))).grown (grown_set _ g _ _) (fun e => hqg (by injection e))
            have HWD := hid (hw0.below (below_drew1 _ _) hsz2)
            have HTC := hid htc
            have HP2 := hid hp2
            have HL2 := hid hl2
            have HQK := hid hqk
            clear htch htc hp2 hl2 hw0 hqk hsz2
            go_upto_region 7 with fail
            go_region
            go_wp2_with fail
            go_roundg (4352 - (q + 1))
            case measure => omega
            case rel => exact ⟨q + 1, _, _, by go_num, by omega, by omega, HWD.out, HTC.out, HP2.out, HL2.out, HQK.out⟩
          all_goals
            have hnt : ¬ (lo ≤ (q : Int) * 256 ∧ (q : Int) * 256 + 255 ≤ hi2) := fun h => by omega
            have hrw := HB3.out.row q hq4
            have hrg := HB3.out.rg q hq4
            have hql200 : (s.parts q).length ≤ 201 := by have := HPT3.out.len q; omega
            have hq43 : (q : Int) < 4352 := by omega
            obtain ⟨Aq, cq, hv⟩ := owns_slice hrw
            rw [hv] at p0
            by_cases hz : (s.parts q).getLast? = some i
            · obtain ⟨l, hl⟩ : ∃ l, s.parts q = l ++ [i] := by
                rcases list_snoc (s.parts q) with e | ⟨l, z, e⟩
                · rw [e] at hz; cases hz
                · rw [e, List.getLast?_append] at hz
                  have : z = i := by simpa using hz
                  exact ⟨l, by rw [e, this]⟩
              have htch : touch i (lo, hi2) q s = s := by unfold touch; rw [if_neg hnt, if_pos hz]
              have htc := HTO.out s q HSP3.out
              rw [htch] at htc
              have HTC := hid htc
              have hlen : (s.parts q).length = l.length + 1 := by rw [hl]; simp
              rw [hv] at hrw
              rw [hlen] at hrw p0 hql200
              obtain ⟨gq, c5, e5⟩ := ownsRow_succ (k := l.length) hrw
              injection e5 with e6 _ e7
              subst e6
              have v0 := hrw.cellAt l.length (by omega)
              have v1 : ((s.parts q).map nInt)[l.length]? = some (nInt i) := by rw [hl]; simp
              rw [v1] at v0
              obtain ⟨nl, hnl⟩ : ∃ nl, nl = l.length := ⟨_, rfl⟩
              obtain ⟨nn, hnn⟩ : ∃ nn, nn = l.length + 1 := ⟨_, rfl⟩
              rw [← hnn] at p0 hql200
              rw [← hnl] at v0
              have hsub : (nn : Int) - 1 = (nl : Int) := by omega
              have hlt5 : (nl : Int) < (nn : Int) := by omega
              have hnz : ¬ ((nn : Int) = 0) := by omega
              unfold nInt at v0
              clear hl htch htc hlen hrw v1 hnl hnn hv hz
              go_wp2_with fail
              go_roundg (4352 - (q + 1))
              case measure => omega
              case rel => exact ⟨q + 1, s, pv, by go_num, by omega, by omega, HB3.out, HTC.out, HPT3.out, HLA3.out, HQ3.out⟩
            · have htch : touch i (lo, hi2) q s = ⟨s.whole, updN s.parts q (s.parts q ++ [i])⟩ := by unfold touch; rw [if_neg hnt, if_neg hz]
              have htc := HTO.out s q HSP3.out
              obtain ⟨hp2, hl2⟩ := HPT3.out.touch_ HLA3.out (lo, hi2) q
              rw [htch] at htc hp2 hl2
              have HTC := hid htc
              have HP2 := hid hp2
              have HL2 := hid hl2
              have HOLD := hid (HB3.out.below ((below_drew1 wr.heap.size wr).alloc (Nat.le_refl _) (.cells #[.int .i64 i] 3)) HB3.out.bel.size)
              have HQD := hid (HQ3.out.below ((below_drew1 wr.heap.size wr).alloc (Nat.le_refl _) (.cells #[.int .i64 i] 3)) HQ3.out.lt)
              have HRW := hid (HOLD.out.row q hq4)
              have HPD := hid (HOLD.out.pt q hq4)
              have HFD := hid (HOLD.out.fz (4353 + q))
              have HV := hid hv
              have HRG := hid hrg
              have hgl := HB3.out.gl
              have hsz3 := HB3.out.bel.size
              have HREAD := hid (show Reads (wr.drew.alloc (.cells #[.int .i64 i] 3)) (wr.drew.alloc (.cells #[.int .i64 i] 3)).heap.size 1 (some ⟨wr.heap.size, 0, none⟩) 1 [nInt i] from reads_n1 (Blk.new wr.drew 3 #[.int .i64 i]))
              obtain ⟨nn, hnn⟩ : ∃ nn, nn = (s.parts q).length := ⟨_, rfl⟩
              have HNN := hid hnn
              rw [← hnn] at p0 hql200
              have p0d : wr.drew.cell? ⟨g, 4353 + q, none⟩ = _ := p0
              clear htch htc hp2 hl2 hrw hrg hv hnn
              have HRV := hid (show (wr.drew.alloc (.cells #[.int .i64 i] 3)).ownsRow W0.heap.size 3 1 (.slice Aq nn cq) nn ((s.parts q).map nInt) from by rw [HNN.out, ← HV.out]; exact HRW.out)
              rw [HV.out, ← HNN.out] at HPD
              have HRG2 := hid (show (Value.slice Aq nn cq).ownBlock ≠ some g from by rw [HNN.out, ← HV.out]; exact HRG.out)
              have hFIN := fun (v7 : Value) (w7 : World) (h1 : w7.ownsRow W0.heap.size 3 1 v7 (nn + 1) ((s.parts q).map nInt ++ [nInt i])) (h2 : (wr.drew.alloc (.cells #[.int .i64 i] 3)).grownBy w7 (Value.slice Aq nn cq).ownBlock) (h3 : v7.ownBlock = (Value.slice Aq nn cq).ownBlock ∨ v7.ownBlock = some (wr.drew.alloc (.cells #[.int .i64 i] 3)).heap.size) => tr_fin HOLD.out hq4 (by simp; omega) HV.out HNN.out HQD.out hqg (by decide) h1 h2 h3
              have HFIN := hid hFIN
              clear hFIN
              have hgs : g < (wr.drew.alloc (.cells #[.int .i64 i] 3)).heap.size := by simp; omega
              have HGS := hid hgs
              by_cases hn0 : nn = 0
              · subst hn0
                clear hz hgs HOLD HNN HV HRW HRG
                go_upto_region 10 with fail
                go_region_law (refine step_append_any _ (by rfl) (.tmp 91) (.tmp 93) 86 (by rfl) W0.heap.size 3 i0 (.int .i64 0) 1 8 Try.underlying86 hii hz0 hz1 hz2 rfl (by decide) (.slice Aq 0 cq) 0 ((s.parts q).map nInt) (by rfl) HRV.out (wr.drew.alloc (.cells #[.int .i64 i] 3)).heap.size (some ⟨wr.heap.size, 0, none⟩) 1 1 [nInt i] (by rfl) HREAD.out (by simp [Value.oneCell', nInt]) (by unfold maxLen; omega) (by omega) (by simp; omega) ?_; intro v7 w7 ho7 hg7 hv7; have p7 := (World.cell?_of_block (a := ⟨g, 4353 + q, none⟩) (hg7.block g HGS.out (fun e => HRG2.out e.symm))).trans HPD.out; have f7 := (blk_frozen (j := 4353 + q) (hg7.block g HGS.out (fun e => HRG2.out e.symm))).trans HFD.out; obtain ⟨A7, c7, rfl⟩ := owns_slice ho7)
                all_goals
                  have HF := hid (HFIN.out _ _ ho7 hg7 hv7)
                  clear ho7 hg7 hv7 p7 f7
                  go_wp2_with fail
                  go_roundg (4352 - (q + 1))
                  case measure => omega
                  case rel => exact ⟨q + 1, _, _, by go_num, by omega, by omega, HF.out.1, HTC.out, HP2.out, HL2.out, HF.out.2⟩
              · obtain ⟨l, z, hl⟩ : ∃ l z, s.parts q = l ++ [z] := by
                  rcases list_snoc (s.parts q) with e | ⟨l, z, e⟩
                  · exact absurd (HNN.out.trans (by rw [e]; rfl)) hn0
                  · exact ⟨l, z, e⟩
                have hzi : z ≠ i := fun e => hz (by rw [hl, List.getLast?_append, e]; simp)
                have hlen : nn = l.length + 1 := by rw [HNN.out, hl]; simp
                have hrw := HB3.out.row q hq4
                rw [HV.out] at hrw
                have hlen2 : (s.parts q).length = l.length + 1 := by rw [hl]; simp
                rw [hlen2] at hrw
                obtain ⟨gq, c5, e5⟩ := ownsRow_succ (k := l.length) hrw
                injection e5 with e6 _ e7
                subst e6; try subst e7
                have v0 := hrw.cellAt l.length (by omega)
                have v1 : ((s.parts q).map nInt)[l.length]? = some (nInt z) := by rw [hl]; simp
                rw [v1] at v0
                obtain ⟨nl, hnl⟩ : ∃ nl, nl = l.length := ⟨_, rfl⟩
                rw [← hnl] at v0 hlen
                have hsub : (nn : Int) - 1 = (nl : Int) := by omega
                have hlt5 : (nl : Int) < (nn : Int) := by omega
                have hnz : ¬ ((nn : Int) = 0) := by omega
                have hzi2 : ((z : Int) == (i : Int)) = false := by simp; omega
                have hzi3 : ((z : Int) != (i : Int)) = true := by simp; omega
                have hzi4 : ¬ ((z : Int) = (i : Int)) := by omega
                unfold nInt at v0
                clear hl hlen hlen2 hrw v1 hnl hz hgs HOLD HNN HV HRW HRG hn0 hzi
                go_upto_region 10 with fail
                clear v0
                go_region_law (refine step_append_any _ (by rfl) (.tmp 91) (.tmp 93) 86 (by rfl) W0.heap.size 3 i0 (.int .i64 0) 1 8 Try.underlying86 hii hz0 hz1 hz2 rfl (by decide) (.slice (some ⟨gq, 0, none⟩) nn cq) nn ((s.parts q).map nInt) (by rfl) HRV.out (wr.drew.alloc (.cells #[.int .i64 i] 3)).heap.size (some ⟨wr.heap.size, 0, none⟩) 1 1 [nInt i] (by rfl) HREAD.out (by simp [Value.oneCell', nInt]) (by unfold maxLen; omega) (by omega) (by simp; omega) ?_; intro v7 w7 ho7 hg7 hv7; have p7 := (World.cell?_of_block (a := ⟨g, 4353 + q, none⟩) (hg7.block g HGS.out (fun e => HRG2.out e.symm))).trans HPD.out; have f7 := (blk_frozen (j := 4353 + q) (hg7.block g HGS.out (fun e => HRG2.out e.symm))).trans HFD.out; obtain ⟨A7, c7, rfl⟩ := owns_slice ho7)
                all_goals
                  have HF := hid (HFIN.out _ _ ho7 hg7 hv7)
                  clear ho7 hg7 hv7 p7 f7
                  go_wp2_with fail
                  go_roundg (4352 - (q + 1))
                  case measure => omega
                  case rel => exact ⟨q + 1, _, _, by go_num, by omega, by omega, HF.out.1, HTC.out, HP2.out, HL2.out, HF.out.2⟩
        · have hqq' : ¬ (q : Int) ≤ (qe : Int) := by omega
          have HN2 := hid (HSN.out s q HSP3.out (by have := HQE.out; omega))
          go_wp2_with fail
          go_roundg (m - (j + 1))
          case measure => omega
          case rel => exact ⟨j + 1, s, pv, by go_num, by omega, Nat.le_refl _, HB3.out, HN2.out, HPT3.out, HLA3.out⟩
    · have hlt' : ¬ ((j : Int) < (m : Int)) := by omega
      have HDN := hid (HSP.out.done (by have := HMN.out; omega))
      clear hlt
      go_wp2_with fail
      go_end0
      exact ⟨rfl, s, pv, HB.out, HDN.out, HPT.out⟩
end Go.Proofs.Ytbkjanlkklmleaa
