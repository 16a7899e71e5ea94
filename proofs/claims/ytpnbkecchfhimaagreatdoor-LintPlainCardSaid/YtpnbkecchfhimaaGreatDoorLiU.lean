/- Chapter 30: the finder looks at a tag: the walk. -/
import Derived.Test.YtpnbkecchfhimaaGreatDoorLiM2
namespace Go.Proofs.YtpnbkecchfhimaaGreatDoor
open Go.RowKit Go.Shelf Go.Maps
open Go.Lib (hid)
set_option linter.unusedVariables false
set_option linter.unusedSimpArgs false
set_option maxRecDepth 100000

theorem stepL_tag {s : ByteArray} {x : Fs} {t : Tk} (h : t.kind = 2 ∨ t.kind = 3) : stepL s x t = if (readV s t.fr).1.closed = false then ⟨x.op, x.out ++ [⟨0, t.fr⟩]⟩
    else if t.kind = 2 then (if voidB t.name = false ∧ t.single = false then ⟨updO x.op t.name (x.op t.name ++ [(t.fr : Int)]), x.out⟩ else x)
    else if x.op t.name = [] then ⟨x.op, x.out ++ [⟨4, t.fr⟩]⟩ else ⟨updO x.op t.name (x.op t.name).dropLast, x.out⟩ := by
  unfold stepL
  rw [if_neg (by omega), if_pos h]
theorem info_num : (Tryz.prog.info? 3).map (fun i => (i.zero, i.size, i.bytes)) = some (some (.int .i64 0), 1, 8) := by kernel_rfl
/-- One number more is noted. -/
theorem ints_append {w : World} {mb : Nat} {v : Value} {zs : List Int} (z : Int) (h : GInts w mb v zs) (hm : mb + 1 ≤ w.heap.size) (hl : zs.length ≤ 1000000) (hz : (Lit.int .i64 z).wf = true) :
    ∃ v' w', (Builtin.append_ #[52, 52] 52 #[v, .slice (some ⟨w.heap.size, 0, none⟩) 1 1]).run Tryz.prog (w.alloc (.cells #[.int .i64 z] 3)) = .ok v' w' ∧ GInts w' mb v' (zs ++ [z]) ∧ w.grownBy w' v.ownBlock ∧ (v'.ownBlock = v.ownBlock ∨ ∃ j, v'.ownBlock = some j ∧ w.heap.size ≤ j) := by
  obtain ⟨i0, hi, hz0, hz1, hz2⟩ := info_parts info_num
  obtain ⟨v', w', hr, h2, h3, _, h5⟩ := Go.run_append_own_at (P := Tryz.prog) (w.alloc (.cells #[.int .i64 z] 3)) (mb + 1) 52 52 3 i0 (.int .i64 0) 1 8 Tryz.underlying52 hi hz0 hz1 hz2 rfl (by decide) v zs.length (zs.map (Value.int .i64)) (h.1.alloc _) ⟨w.heap.size, 0, none⟩ 1 1 [.int .i64 z] rfl (Go.cell_one_new _ _ _) (Go.ints_oneCell .i64 [z]) (by unfold maxLen; omega) (by omega) (by simp; omega)
  refine ⟨v', w', hr, h.appended h2 hz, (World.grownBy_alloc w _ _).trans h3, h5.imp id fun e => ⟨_, e, by simp⟩⟩
theorem slice_pop (b n cap : Nat) (hn : 0 < n) (hc : n ≤ cap) (hm : cap ≤ maxLen) (W : World) : (Instr.slice 52 (.slice (some ⟨b, 0, none⟩) n cap) none (some (.int .i64 ((n - 1 : Nat) : Int))) none).run Tryz.prog W = .ok (.slice (some ⟨b, 0, none⟩) (n - 1) cap) W := by
  rw [run_slice_h (P := Tryz.prog) W 52 _ n cap rfl .i64 ((n - 1 : Nat) : Int) (by omega) (by omega)]
  have hs : (sizeOf (Tryz.prog.elem 52)).run Tryz.prog W = .ok 1 W := by go_simp
  rw [hs]
  simp only [Result.andThen, sliced, Int.toNat_natCast, if_neg (show ¬ cap = 0 by omega), Option.map_some, Nat.mul_one]
  simp [Addr.add]
set_option maxHeartbeats 16000000 in
theorem fnTag_any (g B mb n : Nat) (ov : Value) (x : Fs) (t : Tk) (s : ByteArray) (b : Option Addr) (bl bc : Nat) (w : World) (hf : FnW w g B mb n (.slice b bl bc) ov x) (hba : BA w b bl bc s) (hB : B ≤ w.heap.size) (hbl : bl ≤ 100000) (ho : x.out.length ≤ 90000) (hn : n ≤ 100000) (hk : t.kind = 2 ∨ t.kind = 3) (hfr : t.fr < s.size) (hnm : t.name.size ≤ maxLen) (hmx : Mx w) (hts : TabSp w) :
    Calls Tryz.prog 45 #[.pointer (some ⟨g, 0, none⟩), .agg (tkC t)] w fun e w' => e = .returned (.tuple #[]) ∧ FnRet w w' g B mb n (.slice b bl bc) ov (stepL s x t) := by
  have hst := stepL_tag (s := s) (x := x) hk
  obtain ⟨tk, tf, tt, tn, tr, ts⟩ := t
  simp only at hk hfr hst hnm
  have hb1 := (Below.refl w.heap.size w).alloc (Nat.le_refl _) (.cells (tkC ⟨tk, tf, tt, tn, tr, ts⟩) 29)
  obtain ⟨hf1, hs1⟩ := hf.below hb1
  have hq1 := Blk.new w 29 (tkC ⟨tk, tf, tt, tn, tr, ts⟩)
  have hba1 := hba.below hb1 (Nat.le_refl _)
  have hmx1 := hmx.below hb1 (Nat.le_refl _)
  have hts1 := hts.below hb1 (Nat.le_refl _)
  have hsz1 : B ≤ (w.alloc (.cells (tkC ⟨tk, tf, tt, tn, tr, ts⟩) 29)).heap.size := Nat.le_trans hB hb1.size
  have hqp : Prot (w.alloc (.cells (tkC ⟨tk, tf, tt, tn, tr, ts⟩) 29)) g mb ov w.heap.size := by
    obtain ⟨D, hD, _⟩ := hf.grp
    refine ⟨hq1.lt, fun e => ?_, fun e => ?_, fun e => ?_, ?_⟩
    · have := hf.at_.1.lt; omega
    · have := hD.lt; omega
    · have := own_lt hf.at_.2 e; omega
    · have h0 : w.Shuns mb fun _ => False := fun _ _ _ _ _ _ _ e => e
      have h2 : w.Shuns mb (· = w.heap.size) := h0.reno hD fun k hk => by have : k = w.heap.size := hk; exact .inr (by omega)
      exact h2.kept (World.grownBy_alloc w _ none) hD.lt (by simp)
  unfold tkC at hb1 hf1 hs1 hq1 hba1 hsz1 hmx1 hts1 hqp ⊢
  simp only at hb1 hf1 hs1 hq1 hba1 hsz1 hmx1 hts1 hqp ⊢
  have HQP := hid hqp
  clear hqp
  have x1 := hq1.cell 1
  have y0 := hf1.at_.1.cell 0
  simp only [List.getElem?_toArray, List.getElem?_cons_zero, List.getElem?_cons_succ] at x1 y0
  have HF1 := hid hf1
  have HS1 := hid hs1
  have HBA1 := hid hba1
  have HMX1 := hid hmx1
  have HTS1 := hid hts1
  have HQT := hid hq1
  have HNM := hid hnm
  obtain ⟨mk, msz, mnm, mln, msg, mcl, hmc, hrd⟩ : ∃ (mk msz : Int) (mnm : ByteArray) (mln : Nat) (msg mcl : Bool), (readV s tf).1.closed = mcl ∧ ∀ W, BA W b bl bc s → Mx W → Calls Tryz.prog 60 #[.slice b bl bc, .int .i64 tf] W fun e w' => ∃ A c, e = .returned (.tuple #[.agg #[.int .i64 mk, .int .i64 msz, .string mnm, .slice A mln c, .bool msg, .bool mcl], .bool (readV s tf).2]) ∧ Below W.heap.size W w' :=
    ⟨_, _, _, _, _, _, rfl, fun W h ⟨m, hm⟩ => (read_any W b bl bc (tf : Int) m s h.1 h.2.2.2 h.2.1 h.2.2.1 (by omega) (by have := h.1; omega) hm).mono fun e w' ⟨v, he, hb, hov⟩ => by
      obtain ⟨A, c, rfl⟩ := owns_slice hov
      exact ⟨A, c, he, hb⟩⟩
  generalize (readV s tf).2 = mok at *
  have HRD := hid hrd
  rw [hmc] at hst
  have HST := hid hst
  have HEH := hid (fun W (h : TabSp W) => elHas_any tn hnm W h)
  have hg1 := hf1.at_.1.lt
  have hql := hq1.lt
  have HK := hid hk
  have HTF := hid (show tf ≤ 100000 by have := hba.1; omega)
  clear hf hba hb1 hf1 hs1 hq1 hba1 hst hrd hmc hmx hmx1 hts hts1 hnm hk
  go_enter Tryz.func45, Tryz.ntmps45
  go_upto_region 1 with fail
  generalize w.alloc (.cells #[.int .i64 tk, .int .i64 tf, .int .i64 tt, .string tn, .int .i32 tr, .bool ts] 29) = w1 at *
  generalize w.heap.size = q at *
  have HSS := hid (fun (w' : World) (h : Below w1.heap.size w1 w') => (show w'.cell? ⟨g, 0, none⟩ = some (.slice b bl bc) ∧ w'.cell? ⟨q, 1, none⟩ = some (.int .i64 tf) from ⟨(h.cell (p := ⟨g, 0, none⟩) hg1).trans y0, (h.cell (p := ⟨q, 1, none⟩) hql).trans x1⟩))
  have HB1d := hid (show Below w1.heap.size w1 w1.drew from ⟨rfl, rfl, rfl, Nat.le_refl _, fun _ _ => rfl⟩)
  refine wp_region_held_drew (S := fun w' : World => w'.cell? ⟨g, 0, none⟩ = some (.slice b bl bc) ∧ w'.cell? ⟨q, 1, none⟩ = some (.int .i64 tf)) (by kernel_rfl) (HSS.out _ HB1d.out) (fun hHeld => ?_)
  refine wpAnyH_take (i := 0) (v := ?hv1) rfl (by kernel_rfl) (by kernel_rfl) (by kernel_rfl) (fun _ _ _ h => h) (Or.inl ⟨by rfl, ?hy1⟩) (by assumption) ?hr1
  case hy1 => (intro w hSw; (try dsimp only at hSw); go_simp; try with_reducible rfl)
  (try simp only [Act.put, List.getElem_toArray, List.getElem_cons_zero, List.setIfInBounds_toArray, List.set_cons_zero, List.set_cons_succ])
  refine wpAnyH_take (i := 1) (v := ?hv2) rfl (by kernel_rfl) (by kernel_rfl) (by kernel_rfl) (fun _ _ _ h => h) (Or.inl ⟨by rfl, ?hy2⟩) (by assumption) ?hr2
  case hy2 => (intro w hSw; (try dsimp only at hSw); go_simp; try with_reducible rfl)
  (try simp only [Act.put, List.getElem_toArray, List.getElem_cons_zero, List.getElem_cons_succ, List.setIfInBounds_toArray, List.set_cons_zero, List.set_cons_succ])
  refine wpAnyH_take (i := 2) (v := ?hv3) rfl (by kernel_rfl) (by kernel_rfl) (by kernel_rfl) (fun _ _ _ h => h) (Or.inl ⟨by rfl, ?hy3⟩) (by assumption) ?hr3
  case hy3 => (intro w hSw; (try dsimp only at hSw); go_simp; try with_reducible rfl)
  (try simp only [Act.put, List.getElem_toArray, List.getElem_cons_zero, List.getElem_cons_succ, List.setIfInBounds_toArray, List.set_cons_zero, List.set_cons_succ])
  refine wpAnyH_take (i := 3) (v := ?hv4) rfl (by kernel_rfl) (by kernel_rfl) (by kernel_rfl) (fun _ _ _ h => h) (Or.inl ⟨by rfl, ?hy4⟩) (by assumption) ?hr4
  case hy4 => (intro w hSw; (try dsimp only at hSw); go_simp; try with_reducible rfl)
  (try simp only [Act.put, List.getElem_toArray, List.getElem_cons_zero, List.getElem_cons_succ, List.setIfInBounds_toArray, List.set_cons_zero, List.set_cons_succ])
  refine wpAnyH_take (i := 4) (v := ?hv5) rfl (by kernel_rfl) (by kernel_rfl) (by kernel_rfl) (fun _ _ _ h => h) (Or.inl ⟨by rfl, ?hy5⟩) (by assumption) ?hr5
  case hy5 => (intro w hSw; (try dsimp only at hSw); go_simp; try with_reducible rfl)
  (try simp only [Act.put, List.getElem_toArray, List.getElem_cons_zero, List.getElem_cons_succ, List.setIfInBounds_toArray, List.set_cons_zero, List.set_cons_succ])
  refine wpAnyH_take (i := 5) (v := ?hv6) rfl (by kernel_rfl) (by kernel_rfl) (by kernel_rfl) (fun _ _ _ h => h) (Or.inl ⟨by rfl, ?hy6⟩) (by assumption) ?hr6
  case hy6 => (intro w hSw; (try dsimp only at hSw); go_simp; try with_reducible rfl)
  (try simp only [Act.put, List.getElem_toArray, List.getElem_cons_zero, List.getElem_cons_succ, List.setIfInBounds_toArray, List.set_cons_zero, List.set_cons_succ])
  refine wpAnyH_ready (rs := [6, 10]) (by kernel_rfl) (by simp) ?_
  refine AllReadyH.cons rfl (fun K hK => ?_) (AllReadyH.cons rfl (fun K hK => ?_) AllReadyH.nil)
  · go_simp
    go_at_call 60
    refine (HRD.out _ (HBA1.out.below HB1d.out (Nat.le_refl _)) (HMX1.out.below HB1d.out (Nat.le_refl _))).mono ?_
    rintro e w2 ⟨A, c, rfl, hb2⟩
    have HB2 := hid (HB1d.out.trans hb2)
    clear hb2
    go_wp2_with fail
    refine hK.out _ _ (HSS.out _ HB2.out) (fun hHeld2 => ?_)
    clear hK K hHeld
    refine wpAnyH_take (i := 7) (v := ?hv7) rfl (by kernel_rfl) (by kernel_rfl) (by kernel_rfl) (fun _ _ _ h => h) (Or.inl ⟨by rfl, ?hy7⟩) (by assumption) ?hr7
    case hy7 => (intro w hSw; (try dsimp only at hSw); go_simp; try with_reducible rfl)
    (try simp only [Act.put, List.getElem_toArray, List.getElem_cons_zero, List.getElem_cons_succ, List.setIfInBounds_toArray, List.set_cons_zero, List.set_cons_succ])
    refine wpAnyH_take (i := 8) (v := ?hv8) rfl (by kernel_rfl) (by kernel_rfl) (by kernel_rfl) (fun _ _ _ h => h) (Or.inl ⟨by rfl, ?hy8⟩) (by assumption) ?hr8
    case hy8 => (intro w hSw; (try dsimp only at hSw); go_simp; try with_reducible rfl)
    (try simp only [Act.put, List.getElem_toArray, List.getElem_cons_zero, List.getElem_cons_succ, List.setIfInBounds_toArray, List.set_cons_zero, List.set_cons_succ])
    refine wpAnyH_take (i := 9) (v := ?hv9) rfl (by kernel_rfl) (by kernel_rfl) (by kernel_rfl) (fun _ _ _ h => h) (Or.inl ⟨by rfl, ?hy9⟩) (by assumption) ?hr9
    case hy9 => (intro w hSw; (try dsimp only at hSw); go_simp; try with_reducible rfl)
    (try simp only [Act.put, List.getElem_toArray, List.getElem_cons_zero, List.getElem_cons_succ, List.setIfInBounds_toArray, List.set_cons_zero, List.set_cons_succ])
    have hs2 := HB2.out.size
    have HQ3 := hid (Blk.new w2 110 tg0)
    have HB3 := hid (HB2.out.alloc hs2 (.cells tg0 110))
    refine wpAnyH_ready (rs := [10]) (by kernel_rfl) (by simp) ?_
    refine AllReadyH.cons rfl (fun K hK => ?_) AllReadyH.nil
    go_wp2_with fail
    refine hK.out _ _ (HSS.out _ HB3.out) (fun hHeld3 => ?_)
    clear hK K hHeld2
    obtain ⟨w3, hw3⟩ : ∃ w3, w3 = w2.alloc (.cells tg0 110) := ⟨_, rfl⟩
    have hw3b := hw3
    unfold tg0 at hw3b
    rw [← hw3b] at hHeld3 ⊢
    rw [← hw3] at HQ3 HB3
    clear hw3 hw3b
    generalize w2.heap.size = r at *
    have hrB : w1.heap.size ≤ r := hs2
    have yf := HQ3.out.frozen
    have z0 := HQ3.out.cell 0
    have z1 := HQ3.out.cell 1
    have z2 := HQ3.out.cell 2
    have z3 := HQ3.out.cell 3
    have z4 := HQ3.out.cell 4
    have z5 := HQ3.out.cell 5
    simp only [tg0, List.getElem?_toArray, List.getElem?_cons_zero, List.getElem?_cons_succ] at z0 z1 z2 z3 z4 z5
    have HQ4 := hid (gSet_blk (k := mk) (sz := msz) (nm := mnm) (v := .slice A mln c) (sg := msg) (cl := mcl) HQ3.out)
    have HB4 := hid (gSet_below (r := r) (k := mk) (sz := msz) (nm := mnm) (v := .slice A mln c) (sg := msg) (cl := mcl) hrB HB3.out)
    refine wpAnyH_ready (rs := [11]) (by kernel_rfl) (by simp) (AllReadyH.cons rfl (fun K hK => ?_) AllReadyH.nil)
    go_simp
    refine hK.out _ (gSet w3 r mk msz mnm (.slice A mln c) msg mcl) (HSS.out _ HB4.out) (fun hHeld4 => ?_)
    clear hK K hHeld3
    try simp only [List.setIfInBounds_toArray, List.set_cons_zero, List.set_cons_succ, Act.put]
    refine wpAnyH_take (i := 12) (v := ?hv10) rfl (by kernel_rfl) (by kernel_rfl) (by kernel_rfl) (fun _ _ _ h => h) (Or.inl ⟨by rfl, ?hy10⟩) (by assumption) ?hr10
    case hy10 => (intro w hSw; (try dsimp only at hSw); go_simp; try with_reducible rfl)
    (try simp only [Act.put, List.getElem_toArray, List.getElem_cons_zero, List.getElem_cons_succ, List.setIfInBounds_toArray, List.set_cons_zero, List.set_cons_succ])
    refine wpAnyH_done (by kernel_rfl) ?_ _
    clear hHeld4 z0 z1 z2 z3 z4 z5 yf
    generalize gSet w3 r mk msz mnm (.slice A mln c) msg mcl = wz at *
    have z5 := HQ4.out.cell 5
    have x3 := (HQT.out.below HB4.out hql).cell 3
    simp only [List.getElem?_toArray, List.getElem?_cons_zero, List.getElem?_cons_succ] at z5 x3
    have HTS4 := hid (HTS1.out.below HB4.out (Nat.le_refl _))
    have HE := hid (HEH.out wz HTS4.out)
    clear x1 y0
    go_wp2_with fail
    refine HE.out.mono ?_
    rintro e w5 ⟨rfl, hb5⟩
    generalize voidB tn = vd at *
    have HB5 := hid (HB4.out.trans (hb5.mono HB4.out.size))
    have HB6 := hid (HB5.out.drew)
    obtain ⟨hf6, hs6⟩ := HF1.out.below HB6.out
    obtain ⟨v, hlk, hvi, hvl, hvo, hput⟩ := hf6.look (by omega) tn HNM.out
    obtain ⟨va, vc, rfl⟩ := owns_slice hvi.1
    obtain ⟨vn, hvn⟩ : ∃ vn, vn = (x.op tn).length := ⟨_, rfl⟩
    rw [← hvn] at hvl
    have HVN := hid hvn
    rw [← hvn] at hlk hvi hput hvo
    clear hvn
    have hqt6 := HQT.out.below HB6.out hql
    have x1 := hqt6.cell 1
    have x3 := hqt6.cell 3
    have y0 := hf6.at_.1.cell 0
    have y1 := hf6.at_.1.cell 1
    simp only [List.getElem?_toArray, List.getElem?_cons_zero, List.getElem?_cons_succ] at x1 x3 y0 y1
    have HF6 := hid hf6
    have HS6 := hid (HS1.out.trans hs6)
    have HVI := hid hvi
    have HVO := hid hvo
    have HQP6 := hid (hs6.block q HQP.out).2
    have HPUT := hid hput
    have HQ6 := hid ((HQ4.out.below hb5 HQ4.out.lt).drew)
    have HQT6 := hid hqt6
    clear hf6 hs6 hvi hvo hput hqt6 hb5
    go_upto_region 3 with fail
    go_region
    have hsz6 := Nat.le_trans hsz1 HB6.out.size
    have HFO := hid (fun k => found_any g B (.slice b bl bc) (.map (some mb)) ov x.out k (tf : Int) w5.drew HF6.out.at_ HF6.out.gB hsz6 (by omega))
    have z5 := HQ6.out.cell 5
    have x5 := HQT6.out.cell 5
    have x0 := HQT6.out.cell 0
    simp only [List.getElem?_toArray, List.getElem?_cons_zero, List.getElem?_cons_succ] at z5 x0 x5
    have HSAME := hid (show FnRet w5.drew w5.drew g B mb n (.slice b bl bc) ov x from ⟨ov, n, HF6.out, Nat.le_succ _, FnStep.refl _ _ _ _⟩)
    clear hlk
    cases mcl
    · go_wp2_with fail
      refine (HFO.out 0).mono ?_
      rintro e w7 ⟨rfl, hto⟩
      have HR := hid (FnRet.step HS6.out (HF6.out.found hsz6 hto).up)
      clear hto
      go_wp2_with fail
      go_end0
      refine ⟨rfl, ?_⟩
      first
      | rw [HST.out, if_pos rfl]
      | rw [HST.out, if_pos trivial]
      exact HR.out
    · have HST2 := hid (HST.out.trans (if_neg (by simp)))
      rcases HK.out with rfl | rfl
      · have HST3 := hid (HST2.out.trans (if_pos rfl))
        cases vd
        · cases ts
          · have HST4 := hid (HST3.out.trans (if_pos ⟨rfl, rfl⟩))
            have hi5 : GInts w5.drew.drew mb (.slice va vn vc) (x.op tn) := HVI.out
            obtain ⟨v7, w7, hap, hi7, hg7', hl7⟩ := ints_append (w := w5.drew.drew) (tf : Int) hi5 (by have h1 := HF6.out.mB; have h2 := hsz6; show mb + 1 ≤ w5.drew.heap.size; omega) (by rw [← HVN.out]; omega) (WalkArith.wf_i64 (by have := HTF.out; omega))
            have hg7 : w5.drew.grownBy w7 (Value.slice va vn vc).ownBlock := ⟨hg7'.os, hg7'.tape, hg7'.output, hg7'.size, hg7'.block⟩
            obtain ⟨w8, hmu, hr8⟩ := HPUT.out w7 v7 _ hg7 hi7 (by rw [List.length_append, ← HVN.out]; simp; omega) hl7
            have HC0 := hid (show ∀ W : World, W.heap[g]? = w5.drew.heap[g]? → W.heap[q]? = w5.drew.heap[q]? → (W.cell? ⟨g, 1, none⟩ = some (.map (some mb)) ∧ W.cell? ⟨q, 3, none⟩ = some (.string tn)) ∧ W.cell? ⟨q, 1, none⟩ = some (.int .i64 tf) from fun W h1 h2 => ⟨⟨(World.cell?_of_block (a := ⟨g, 1, none⟩) h1).trans y1, (World.cell?_of_block (a := ⟨q, 3, none⟩) h2).trans x3⟩, (World.cell?_of_block (a := ⟨q, 1, none⟩) h2).trans x1⟩)
            have hgl := HF6.out.at_.1.lt
            have hqlt := HQP6.out.lt
            have HC6 := hid (HC0.out w5.drew.drew rfl rfl)
            have HC7 := hid (HC0.out w7 (hg7.block g hgl (fun e => HVO.out g (.inl rfl) e.symm)) (hg7.block q hqlt (fun e => HVO.out q (.inr HQP6.out) e.symm)))
            have HC8 := hid (show (w8.cell? ⟨g, 1, none⟩ = some (.map (some mb)) ∧ w8.cell? ⟨q, 3, none⟩ = some (.string tn)) ∧ w8.cell? ⟨q, 1, none⟩ = some (.int .i64 tf) from by
              obtain ⟨ov8, n8, hf8, _, hs8⟩ := hr8
              have y := hf8.at_.1.cell 1
              simp only [List.getElem?_toArray, List.getElem?_cons_zero, List.getElem?_cons_succ] at y
              have hb := (hs8.block q HQP6.out).1
              exact ⟨⟨y, (World.cell?_of_block (a := ⟨q, 3, none⟩) hb).trans x3⟩, (World.cell?_of_block (a := ⟨q, 1, none⟩) hb).trans x1⟩)
            have hca : ∀ a v, w5.drew.cell? a = some v → (w5.drew.drew.alloc (.cells #[.int .i64 tf] 3)).cell? a = some v := fun a v h => (Below.cell ((Below.refl w5.drew.drew.heap.size w5.drew.drew).alloc (Nat.le_refl _) (.cells #[.int .i64 tf] 3)) (World.block_lt_of_cell? _ _ h)).trans h
            have HC65 := hid (show ((w5.drew.drew.alloc (.cells #[.int .i64 tf] 3)).cell? ⟨g, 1, none⟩ = some (.map (some mb)) ∧ (w5.drew.drew.alloc (.cells #[.int .i64 tf] 3)).cell? ⟨q, 3, none⟩ = some (.string tn)) ∧ (w5.drew.drew.alloc (.cells #[.int .i64 tf] 3)).cell? ⟨q, 1, none⟩ = some (.int .i64 tf) from ⟨⟨hca _ _ y1, hca _ _ x3⟩, hca _ _ x1⟩)
            have HR := hid (FnRet.step HS6.out hr8)
            rw [show w5.drew.drew.heap.size = w5.heap.size from rfl, show w5.drew.drew.alloc (.cells #[.int .i64 tf] 3) = (w5.alloc (.cells #[.int .i64 tf] 3)).drew.drew from rfl] at hap
            have HAP := hid hap
            have HMU := hid hmu
            clear hi7 hg7 hg7' hl7 hr8 hca hi5 hap hmu HPUT hvl
            go_upto_region 7 with fail
            refine wp_region_held_drew (S := fun w' : World => (w'.cell? ⟨g, 1, none⟩ = some (.map (some mb)) ∧ w'.cell? ⟨q, 3, none⟩ = some (.string tn)) ∧ w'.cell? ⟨q, 1, none⟩ = some (.int .i64 tf)) (by kernel_rfl) HC6.out (fun hHeld => ?_)
            refine wpAnyH_take (i := 0) (v := ?hv11) rfl (by kernel_rfl) (by kernel_rfl) (by kernel_rfl) (fun _ _ _ h => h) (Or.inl ⟨by rfl, ?hy11⟩) (by assumption) ?hr11
            case hy11 => (intro w hSw; (try dsimp only at hSw); go_simp; try with_reducible rfl)
            (try simp only [Act.put, List.getElem_toArray, List.getElem_cons_zero, List.setIfInBounds_toArray, List.set_cons_zero, List.set_cons_succ])
            refine wpAnyH_take (i := 1) (v := ?hv12) rfl (by kernel_rfl) (by kernel_rfl) (by kernel_rfl) (fun _ _ _ h => h) (Or.inl ⟨by rfl, ?hy12⟩) (by assumption) ?hr12
            case hy12 => (intro w hSw; (try dsimp only at hSw); go_simp; try with_reducible rfl)
            (try simp only [Act.put, List.getElem_toArray, List.getElem_cons_zero, List.getElem_cons_succ, List.setIfInBounds_toArray, List.set_cons_zero, List.set_cons_succ])
            refine wpAnyH_take (i := 2) (v := ?hv13) rfl (by kernel_rfl) (by kernel_rfl) (by kernel_rfl) (fun _ _ _ h => h) (Or.inl ⟨by rfl, ?hy13⟩) (by assumption) ?hr13
            case hy13 => (intro w hSw; (try dsimp only at hSw); go_simp; try with_reducible rfl)
            (try simp only [Act.put, List.getElem_toArray, List.getElem_cons_zero, List.getElem_cons_succ, List.setIfInBounds_toArray, List.set_cons_zero, List.set_cons_succ])
            refine wpAnyH_take (i := 3) (v := ?hv14) rfl (by kernel_rfl) (by kernel_rfl) (by kernel_rfl) (fun _ _ _ h => h) (Or.inl ⟨by rfl, ?hy14⟩) (by assumption) ?hr14
            case hy14 => (intro w hSw; (try dsimp only at hSw); go_simp; try with_reducible rfl)
            (try simp only [Act.put, List.getElem_toArray, List.getElem_cons_zero, List.getElem_cons_succ, List.setIfInBounds_toArray, List.set_cons_zero, List.set_cons_succ])
            refine wpAnyH_take (i := 4) (v := ?hv15) rfl (by kernel_rfl) (by kernel_rfl) (by kernel_rfl) (fun _ _ _ h => h) (Or.inl ⟨by rfl, ?hy15⟩) (by assumption) ?hr15
            case hy15 => (intro w hSw; (try dsimp only at hSw); go_simp; try with_reducible rfl)
            (try simp only [Act.put, List.getElem_toArray, List.getElem_cons_zero, List.getElem_cons_succ, List.setIfInBounds_toArray, List.set_cons_zero, List.set_cons_succ])
            refine wpAnyH_take (i := 5) (v := ?hv16) rfl (by kernel_rfl) (by kernel_rfl) (by kernel_rfl) (fun _ _ _ h => h) (Or.inl ⟨by rfl, ?hy16⟩) (by assumption) ?hr16
            case hy16 => (intro w hSw; (try dsimp only at hSw); go_simp; try with_reducible rfl)
            (try simp only [Act.put, List.getElem_toArray, List.getElem_cons_zero, List.getElem_cons_succ, List.setIfInBounds_toArray, List.set_cons_zero, List.set_cons_succ])
            refine wpAnyH_take (i := 6) (v := ?hv17) rfl (by kernel_rfl) (by kernel_rfl) (by kernel_rfl) (fun _ _ _ h => h) (Or.inl ⟨by rfl, ?hy17⟩) (by assumption) ?hr17
            case hy17 => (intro w hSw; (try dsimp only at hSw); go_simp; try with_reducible rfl)
            (try simp only [Act.put, List.getElem_toArray, List.getElem_cons_zero, List.getElem_cons_succ, List.setIfInBounds_toArray, List.set_cons_zero, List.set_cons_succ])
            refine wpAnyH_take (i := 7) (v := ?hv18) rfl (by kernel_rfl) (by kernel_rfl) (by kernel_rfl) (fun _ _ _ h => h) (Or.inl ⟨by rfl, ?hy18⟩) (by assumption) ?hr18
            case hy18 => (intro w hSw; (try dsimp only at hSw); go_simp; try with_reducible rfl)
            (try simp only [Act.put, List.getElem_toArray, List.getElem_cons_zero, List.getElem_cons_succ, List.setIfInBounds_toArray, List.set_cons_zero, List.set_cons_succ])
            refine wpAnyH_take (i := 8) (v := ?hv19) rfl (by kernel_rfl) (by kernel_rfl) (by kernel_rfl) (fun _ _ _ h => h) (Or.inl ⟨by rfl, ?hy19⟩) (by assumption) ?hr19
            case hy19 => (intro w hSw; (try dsimp only at hSw); go_simp; try with_reducible rfl)
            (try simp only [Act.put, List.getElem_toArray, List.getElem_cons_zero, List.getElem_cons_succ, List.setIfInBounds_toArray, List.set_cons_zero, List.set_cons_succ])
            refine wpAnyH_ready (rs := [9]) (by kernel_rfl) (by simp) (AllReadyH.cons rfl (fun K hK => ?_) AllReadyH.nil)
            go_wp2_with fail
            refine hK.out _ _ HC65.out (fun hHeld2 => ?_)
            clear hK K hHeld
            refine wpAnyH_ready (rs := [10]) (by kernel_rfl) (by simp) (AllReadyH.cons rfl (fun K hK => ?_) AllReadyH.nil)
            refine wp_append_run (sl := .tmp 55) (x := .tmp 58) (t := 52) (ty := 52) (v := .slice va vn vc) (u := .slice (some ⟨w5.heap.size, 0, none⟩) 1 1) (by kernel_rfl) (by kernel_rfl) (by kernel_rfl) (by kernel_rfl) HAP.out ?_
            refine hK.out _ _ HC7.out (fun hHeld3 => ?_)
            clear hK K hHeld2
            refine wpAnyH_ready (rs := [11]) (by kernel_rfl) (by simp) (AllReadyH.cons rfl (fun K hK => ?_) AllReadyH.nil)
            refine wp_mapUpdate_run (m := .tmp 52) (x := .tmp 54) (v := .tmp 59) (t := 85) (mv := .map (some mb)) (kv := .string tn) (vv := v7) (by kernel_rfl) (by kernel_rfl) (by kernel_rfl) (by kernel_rfl) HMU.out ?_
            refine hK.out _ _ HC8.out (fun hHeld4 => ?_)
            refine wpAnyH_done (by kernel_rfl) ?_ _
            clear hK K hHeld3 hHeld4
            go_wp2_with fail
            go_end0
            refine ⟨rfl, ?_⟩
            rw [HST4.out]
            exact HR.out
          · have HST4 := hid (HST3.out.trans (if_neg (fun h => by simp at h)))
            go_wp2_with fail
            go_end0
            refine ⟨rfl, ?_⟩
            rw [HST4.out]
            exact FnRet.step HS6.out HSAME.out
        · have HST4 := hid (HST3.out.trans (if_neg (fun h => by simp at h)))
          cases ts
          · go_wp2_with fail
            go_end0
            refine ⟨rfl, ?_⟩
            rw [HST4.out]
            exact FnRet.step HS6.out HSAME.out
          · go_wp2_with fail
            go_end0
            refine ⟨rfl, ?_⟩
            rw [HST4.out]
            exact FnRet.step HS6.out HSAME.out
      · have HST3 := hid (HST2.out.trans (if_neg (by decide)))
        by_cases hz : x.op tn = []
        · have HST4 := hid (HST3.out.trans (if_pos hz))
          have hv0 : vn = 0 := by rw [HVN.out, hz]; rfl
          subst hv0
          go_wp2_with fail
          refine (HFO.out 4).mono ?_
          rintro e w7 ⟨rfl, hto⟩
          have HR := hid (FnRet.step HS6.out (HF6.out.found hsz6 hto).up)
          clear hto
          go_wp2_with fail
          go_end0
          refine ⟨rfl, ?_⟩
          rw [HST4.out]
          exact HR.out
        · have HST4 := hid (HST3.out.trans (if_neg hz))
          obtain ⟨r0, cap, hve, hc1, hc2, hip⟩ := ints_pop HVI.out hz
          rw [← HVN.out] at hve hc1 hip
          injection hve with hva _ hvc
          subst hva hvc
          have hv0 : 0 < vn := by
            rw [HVN.out]
            exact List.length_pos_iff.2 hz
          obtain ⟨w8, hmu, hr8⟩ := HPUT.out w5.drew.drew _ _ ⟨rfl, rfl, rfl, Nat.le_refl _, fun _ _ _ => rfl⟩ hip (by rw [List.length_dropLast, ← HVN.out]; omega) (.inl rfl)
          have HR := hid (FnRet.step HS6.out hr8)
          have hvpos : (0 : Int) < (vn : Int) := by omega
          have hcI : (vn : Int) ≤ (vc : Int) := by omega
          have hvw : IntKind.i64.wrap ((vn : Int) - 1) = ((vn - 1 : Nat) : Int) := by rw [IntWalk.i64_in _ (by omega)]; omega
          have hsl : ∀ W : World, (Instr.slice 52 (.slice (some ⟨r0, 0, none⟩) vn vc) none (some (.int .i64 ((vn - 1 : Nat) : Int))) none).run Tryz.prog W = .ok (.slice (some ⟨r0, 0, none⟩) (vn - 1) vc) W := slice_pop r0 vn vc hv0 (by omega) (by omega)
          clear hip hr8 HPUT hvl hz
          go_upto_region 9 with fail
          go_region
          try go_wp2_with fail
          go_end0
          refine ⟨rfl, ?_⟩
          rw [HST4.out]
          exact HR.out
  · have HB2 := hid (show Below w1.heap.size w1 (w1.alloc (.cells tg0 110)).drew from ((Below.refl w1.heap.size w1).alloc (Nat.le_refl _) (.cells tg0 110)).drew)
    have HQ2 := hid (show Blk (w1.alloc (.cells tg0 110)).drew w1.heap.size 110 tg0 from Blk.drew (Blk.new w1 110 tg0))
    go_wp2_with fail
    refine hK.out _ _ (HSS.out _ HB2.out) (fun hHeld2 => ?_)
    clear hK K hHeld
    obtain ⟨w2, hw2⟩ : ∃ w2, w2 = (w1.alloc (.cells tg0 110)).drew := ⟨_, rfl⟩
    have hw2b := hw2
    unfold tg0 at hw2b
    rw [← hw2b] at hHeld2 ⊢
    rw [← hw2] at HQ2 HB2
    clear hw2 hw2b
    have hrB : w1.heap.size ≤ w1.heap.size := Nat.le_refl _
    obtain ⟨r, hr⟩ : ∃ r, r = w1.heap.size := ⟨_, rfl⟩
    rw [← hr] at HQ2 ⊢
    have hrB : w1.heap.size ≤ r := by omega
    clear hr
    refine wpAnyH_ready (rs := [6]) (by kernel_rfl) (by simp) (AllReadyH.cons rfl (fun K hK => ?_) AllReadyH.nil)
    go_simp
    go_at_call 60
    refine (HRD.out _ (HBA1.out.below HB2.out (Nat.le_refl _)) (HMX1.out.below HB2.out (Nat.le_refl _))).mono ?_
    rintro e w3 ⟨A, c, rfl, hb3⟩
    have HB3 := hid (HB2.out.trans (hb3.mono HB2.out.size))
    have HQ3 := hid (HQ2.out.below hb3 HQ2.out.lt)
    clear hb3
    go_wp2_with fail
    refine hK.out _ _ (HSS.out _ HB3.out) (fun hHeld3 => ?_)
    clear hK K hHeld2
    refine wpAnyH_take (i := 7) (v := ?hv20) rfl (by kernel_rfl) (by kernel_rfl) (by kernel_rfl) (fun _ _ _ h => h) (Or.inl ⟨by rfl, ?hy20⟩) (by assumption) ?hr20
    case hy20 => (intro w hSw; (try dsimp only at hSw); go_simp; try with_reducible rfl)
    (try simp only [Act.put, List.getElem_toArray, List.getElem_cons_zero, List.getElem_cons_succ, List.setIfInBounds_toArray, List.set_cons_zero, List.set_cons_succ])
    refine wpAnyH_take (i := 8) (v := ?hv21) rfl (by kernel_rfl) (by kernel_rfl) (by kernel_rfl) (fun _ _ _ h => h) (Or.inl ⟨by rfl, ?hy21⟩) (by assumption) ?hr21
    case hy21 => (intro w hSw; (try dsimp only at hSw); go_simp; try with_reducible rfl)
    (try simp only [Act.put, List.getElem_toArray, List.getElem_cons_zero, List.getElem_cons_succ, List.setIfInBounds_toArray, List.set_cons_zero, List.set_cons_succ])
    refine wpAnyH_take (i := 9) (v := ?hv22) rfl (by kernel_rfl) (by kernel_rfl) (by kernel_rfl) (fun _ _ _ h => h) (Or.inl ⟨by rfl, ?hy22⟩) (by assumption) ?hr22
    case hy22 => (intro w hSw; (try dsimp only at hSw); go_simp; try with_reducible rfl)
    (try simp only [Act.put, List.getElem_toArray, List.getElem_cons_zero, List.getElem_cons_succ, List.setIfInBounds_toArray, List.set_cons_zero, List.set_cons_succ])
    have yf := HQ3.out.frozen
    have z0 := HQ3.out.cell 0
    have z1 := HQ3.out.cell 1
    have z2 := HQ3.out.cell 2
    have z3 := HQ3.out.cell 3
    have z4 := HQ3.out.cell 4
    have z5 := HQ3.out.cell 5
    simp only [tg0, List.getElem?_toArray, List.getElem?_cons_zero, List.getElem?_cons_succ] at z0 z1 z2 z3 z4 z5
    have HQ4 := hid (gSet_blk (k := mk) (sz := msz) (nm := mnm) (v := .slice A mln c) (sg := msg) (cl := mcl) HQ3.out)
    have HB4 := hid (gSet_below (r := r) (k := mk) (sz := msz) (nm := mnm) (v := .slice A mln c) (sg := msg) (cl := mcl) hrB HB3.out)
    refine wpAnyH_ready (rs := [11]) (by kernel_rfl) (by simp) (AllReadyH.cons rfl (fun K hK => ?_) AllReadyH.nil)
    go_simp
    refine hK.out _ (gSet w3 r mk msz mnm (.slice A mln c) msg mcl) (HSS.out _ HB4.out) (fun hHeld4 => ?_)
    clear hK K hHeld3
    try simp only [List.setIfInBounds_toArray, List.set_cons_zero, List.set_cons_succ, Act.put]
    refine wpAnyH_take (i := 12) (v := ?hv23) rfl (by kernel_rfl) (by kernel_rfl) (by kernel_rfl) (fun _ _ _ h => h) (Or.inl ⟨by rfl, ?hy23⟩) (by assumption) ?hr23
    case hy23 => (intro w hSw; (try dsimp only at hSw); go_simp; try with_reducible rfl)
    (try simp only [Act.put, List.getElem_toArray, List.getElem_cons_zero, List.getElem_cons_succ, List.setIfInBounds_toArray, List.set_cons_zero, List.set_cons_succ])
    refine wpAnyH_done (by kernel_rfl) ?_ _
    clear hHeld4 z0 z1 z2 z3 z4 z5 yf
    generalize gSet w3 r mk msz mnm (.slice A mln c) msg mcl = wz at *
    have z5 := HQ4.out.cell 5
    have x3 := (HQT.out.below HB4.out hql).cell 3
    simp only [List.getElem?_toArray, List.getElem?_cons_zero, List.getElem?_cons_succ] at z5 x3
    have HTS4 := hid (HTS1.out.below HB4.out (Nat.le_refl _))
    have HE := hid (HEH.out wz HTS4.out)
    clear x1 y0
    go_wp2_with fail
    refine HE.out.mono ?_
    rintro e w5 ⟨rfl, hb5⟩
    generalize voidB tn = vd at *
    have HB5 := hid (HB4.out.trans (hb5.mono HB4.out.size))
    have HB6 := hid (HB5.out.drew)
    obtain ⟨hf6, hs6⟩ := HF1.out.below HB6.out
    obtain ⟨v, hlk, hvi, hvl, hvo, hput⟩ := hf6.look (by omega) tn HNM.out
    obtain ⟨va, vc, rfl⟩ := owns_slice hvi.1
    obtain ⟨vn, hvn⟩ : ∃ vn, vn = (x.op tn).length := ⟨_, rfl⟩
    rw [← hvn] at hvl
    have HVN := hid hvn
    rw [← hvn] at hlk hvi hput hvo
    clear hvn
    have hqt6 := HQT.out.below HB6.out hql
    have x1 := hqt6.cell 1
    have x3 := hqt6.cell 3
    have y0 := hf6.at_.1.cell 0
    have y1 := hf6.at_.1.cell 1
    simp only [List.getElem?_toArray, List.getElem?_cons_zero, List.getElem?_cons_succ] at x1 x3 y0 y1
    have HF6 := hid hf6
    have HS6 := hid (HS1.out.trans hs6)
    have HVI := hid hvi
    have HVO := hid hvo
    have HQP6 := hid (hs6.block q HQP.out).2
    have HPUT := hid hput
    have HQ6 := hid ((HQ4.out.below hb5 HQ4.out.lt).drew)
    have HQT6 := hid hqt6
    clear hf6 hs6 hvi hvo hput hqt6 hb5
    go_upto_region 3 with fail
    go_region
    have hsz6 := Nat.le_trans hsz1 HB6.out.size
    have HFO := hid (fun k => found_any g B (.slice b bl bc) (.map (some mb)) ov x.out k (tf : Int) w5.drew HF6.out.at_ HF6.out.gB hsz6 (by omega))
    have z5 := HQ6.out.cell 5
    have x5 := HQT6.out.cell 5
    have x0 := HQT6.out.cell 0
    simp only [List.getElem?_toArray, List.getElem?_cons_zero, List.getElem?_cons_succ] at z5 x0 x5
    have HSAME := hid (show FnRet w5.drew w5.drew g B mb n (.slice b bl bc) ov x from ⟨ov, n, HF6.out, Nat.le_succ _, FnStep.refl _ _ _ _⟩)
    clear hlk
    cases mcl
    · go_wp2_with fail
      refine (HFO.out 0).mono ?_
      rintro e w7 ⟨rfl, hto⟩
      have HR := hid (FnRet.step HS6.out (HF6.out.found hsz6 hto).up)
      clear hto
      go_wp2_with fail
      go_end0
      refine ⟨rfl, ?_⟩
      first
      | rw [HST.out, if_pos rfl]
      | rw [HST.out, if_pos trivial]
      exact HR.out
    · have HST2 := hid (HST.out.trans (if_neg (by simp)))
      rcases HK.out with rfl | rfl
      · have HST3 := hid (HST2.out.trans (if_pos rfl))
        cases vd
        · cases ts
          · have HST4 := hid (HST3.out.trans (if_pos ⟨rfl, rfl⟩))
            have hi5 : GInts w5.drew.drew mb (.slice va vn vc) (x.op tn) := HVI.out
            obtain ⟨v7, w7, hap, hi7, hg7', hl7⟩ := ints_append (w := w5.drew.drew) (tf : Int) hi5 (by have h1 := HF6.out.mB; have h2 := hsz6; show mb + 1 ≤ w5.drew.heap.size; omega) (by rw [← HVN.out]; omega) (WalkArith.wf_i64 (by have := HTF.out; omega))
            have hg7 : w5.drew.grownBy w7 (Value.slice va vn vc).ownBlock := ⟨hg7'.os, hg7'.tape, hg7'.output, hg7'.size, hg7'.block⟩
            obtain ⟨w8, hmu, hr8⟩ := HPUT.out w7 v7 _ hg7 hi7 (by rw [List.length_append, ← HVN.out]; simp; omega) hl7
            have HC0 := hid (show ∀ W : World, W.heap[g]? = w5.drew.heap[g]? → W.heap[q]? = w5.drew.heap[q]? → (W.cell? ⟨g, 1, none⟩ = some (.map (some mb)) ∧ W.cell? ⟨q, 3, none⟩ = some (.string tn)) ∧ W.cell? ⟨q, 1, none⟩ = some (.int .i64 tf) from fun W h1 h2 => ⟨⟨(World.cell?_of_block (a := ⟨g, 1, none⟩) h1).trans y1, (World.cell?_of_block (a := ⟨q, 3, none⟩) h2).trans x3⟩, (World.cell?_of_block (a := ⟨q, 1, none⟩) h2).trans x1⟩)
            have hgl := HF6.out.at_.1.lt
            have hqlt := HQP6.out.lt
            have HC6 := hid (HC0.out w5.drew.drew rfl rfl)
            have HC7 := hid (HC0.out w7 (hg7.block g hgl (fun e => HVO.out g (.inl rfl) e.symm)) (hg7.block q hqlt (fun e => HVO.out q (.inr HQP6.out) e.symm)))
            have HC8 := hid (show (w8.cell? ⟨g, 1, none⟩ = some (.map (some mb)) ∧ w8.cell? ⟨q, 3, none⟩ = some (.string tn)) ∧ w8.cell? ⟨q, 1, none⟩ = some (.int .i64 tf) from by
              obtain ⟨ov8, n8, hf8, _, hs8⟩ := hr8
              have y := hf8.at_.1.cell 1
              simp only [List.getElem?_toArray, List.getElem?_cons_zero, List.getElem?_cons_succ] at y
              have hb := (hs8.block q HQP6.out).1
              exact ⟨⟨y, (World.cell?_of_block (a := ⟨q, 3, none⟩) hb).trans x3⟩, (World.cell?_of_block (a := ⟨q, 1, none⟩) hb).trans x1⟩)
            have hca : ∀ a v, w5.drew.cell? a = some v → (w5.drew.drew.alloc (.cells #[.int .i64 tf] 3)).cell? a = some v := fun a v h => (Below.cell ((Below.refl w5.drew.drew.heap.size w5.drew.drew).alloc (Nat.le_refl _) (.cells #[.int .i64 tf] 3)) (World.block_lt_of_cell? _ _ h)).trans h
            have HC65 := hid (show ((w5.drew.drew.alloc (.cells #[.int .i64 tf] 3)).cell? ⟨g, 1, none⟩ = some (.map (some mb)) ∧ (w5.drew.drew.alloc (.cells #[.int .i64 tf] 3)).cell? ⟨q, 3, none⟩ = some (.string tn)) ∧ (w5.drew.drew.alloc (.cells #[.int .i64 tf] 3)).cell? ⟨q, 1, none⟩ = some (.int .i64 tf) from ⟨⟨hca _ _ y1, hca _ _ x3⟩, hca _ _ x1⟩)
            have HR := hid (FnRet.step HS6.out hr8)
            rw [show w5.drew.drew.heap.size = w5.heap.size from rfl, show w5.drew.drew.alloc (.cells #[.int .i64 tf] 3) = (w5.alloc (.cells #[.int .i64 tf] 3)).drew.drew from rfl] at hap
            have HAP := hid hap
            have HMU := hid hmu
            clear hi7 hg7 hg7' hl7 hr8 hca hi5 hap hmu HPUT hvl
            go_upto_region 7 with fail
            refine wp_region_held_drew (S := fun w' : World => (w'.cell? ⟨g, 1, none⟩ = some (.map (some mb)) ∧ w'.cell? ⟨q, 3, none⟩ = some (.string tn)) ∧ w'.cell? ⟨q, 1, none⟩ = some (.int .i64 tf)) (by kernel_rfl) HC6.out (fun hHeld => ?_)
            refine wpAnyH_take (i := 0) (v := ?hv24) rfl (by kernel_rfl) (by kernel_rfl) (by kernel_rfl) (fun _ _ _ h => h) (Or.inl ⟨by rfl, ?hy24⟩) (by assumption) ?hr24
            case hy24 => (intro w hSw; (try dsimp only at hSw); go_simp; try with_reducible rfl)
            (try simp only [Act.put, List.getElem_toArray, List.getElem_cons_zero, List.setIfInBounds_toArray, List.set_cons_zero, List.set_cons_succ])
            refine wpAnyH_take (i := 1) (v := ?hv25) rfl (by kernel_rfl) (by kernel_rfl) (by kernel_rfl) (fun _ _ _ h => h) (Or.inl ⟨by rfl, ?hy25⟩) (by assumption) ?hr25
            case hy25 => (intro w hSw; (try dsimp only at hSw); go_simp; try with_reducible rfl)
            (try simp only [Act.put, List.getElem_toArray, List.getElem_cons_zero, List.getElem_cons_succ, List.setIfInBounds_toArray, List.set_cons_zero, List.set_cons_succ])
            refine wpAnyH_take (i := 2) (v := ?hv26) rfl (by kernel_rfl) (by kernel_rfl) (by kernel_rfl) (fun _ _ _ h => h) (Or.inl ⟨by rfl, ?hy26⟩) (by assumption) ?hr26
            case hy26 => (intro w hSw; (try dsimp only at hSw); go_simp; try with_reducible rfl)
            (try simp only [Act.put, List.getElem_toArray, List.getElem_cons_zero, List.getElem_cons_succ, List.setIfInBounds_toArray, List.set_cons_zero, List.set_cons_succ])
            refine wpAnyH_take (i := 3) (v := ?hv27) rfl (by kernel_rfl) (by kernel_rfl) (by kernel_rfl) (fun _ _ _ h => h) (Or.inl ⟨by rfl, ?hy27⟩) (by assumption) ?hr27
            case hy27 => (intro w hSw; (try dsimp only at hSw); go_simp; try with_reducible rfl)
            (try simp only [Act.put, List.getElem_toArray, List.getElem_cons_zero, List.getElem_cons_succ, List.setIfInBounds_toArray, List.set_cons_zero, List.set_cons_succ])
            refine wpAnyH_take (i := 4) (v := ?hv28) rfl (by kernel_rfl) (by kernel_rfl) (by kernel_rfl) (fun _ _ _ h => h) (Or.inl ⟨by rfl, ?hy28⟩) (by assumption) ?hr28
            case hy28 => (intro w hSw; (try dsimp only at hSw); go_simp; try with_reducible rfl)
            (try simp only [Act.put, List.getElem_toArray, List.getElem_cons_zero, List.getElem_cons_succ, List.setIfInBounds_toArray, List.set_cons_zero, List.set_cons_succ])
            refine wpAnyH_take (i := 5) (v := ?hv29) rfl (by kernel_rfl) (by kernel_rfl) (by kernel_rfl) (fun _ _ _ h => h) (Or.inl ⟨by rfl, ?hy29⟩) (by assumption) ?hr29
            case hy29 => (intro w hSw; (try dsimp only at hSw); go_simp; try with_reducible rfl)
            (try simp only [Act.put, List.getElem_toArray, List.getElem_cons_zero, List.getElem_cons_succ, List.setIfInBounds_toArray, List.set_cons_zero, List.set_cons_succ])
            refine wpAnyH_take (i := 6) (v := ?hv30) rfl (by kernel_rfl) (by kernel_rfl) (by kernel_rfl) (fun _ _ _ h => h) (Or.inl ⟨by rfl, ?hy30⟩) (by assumption) ?hr30
            case hy30 => (intro w hSw; (try dsimp only at hSw); go_simp; try with_reducible rfl)
            (try simp only [Act.put, List.getElem_toArray, List.getElem_cons_zero, List.getElem_cons_succ, List.setIfInBounds_toArray, List.set_cons_zero, List.set_cons_succ])
            refine wpAnyH_take (i := 7) (v := ?hv31) rfl (by kernel_rfl) (by kernel_rfl) (by kernel_rfl) (fun _ _ _ h => h) (Or.inl ⟨by rfl, ?hy31⟩) (by assumption) ?hr31
            case hy31 => (intro w hSw; (try dsimp only at hSw); go_simp; try with_reducible rfl)
            (try simp only [Act.put, List.getElem_toArray, List.getElem_cons_zero, List.getElem_cons_succ, List.setIfInBounds_toArray, List.set_cons_zero, List.set_cons_succ])
            refine wpAnyH_take (i := 8) (v := ?hv32) rfl (by kernel_rfl) (by kernel_rfl) (by kernel_rfl) (fun _ _ _ h => h) (Or.inl ⟨by rfl, ?hy32⟩) (by assumption) ?hr32
            case hy32 => (intro w hSw; (try dsimp only at hSw); go_simp; try with_reducible rfl)
            (try simp only [Act.put, List.getElem_toArray, List.getElem_cons_zero, List.getElem_cons_succ, List.setIfInBounds_toArray, List.set_cons_zero, List.set_cons_succ])
            refine wpAnyH_ready (rs := [9]) (by kernel_rfl) (by simp) (AllReadyH.cons rfl (fun K hK => ?_) AllReadyH.nil)
            go_wp2_with fail
            refine hK.out _ _ HC65.out (fun hHeld2 => ?_)
            clear hK K hHeld
            refine wpAnyH_ready (rs := [10]) (by kernel_rfl) (by simp) (AllReadyH.cons rfl (fun K hK => ?_) AllReadyH.nil)
            refine wp_append_run (sl := .tmp 55) (x := .tmp 58) (t := 52) (ty := 52) (v := .slice va vn vc) (u := .slice (some ⟨w5.heap.size, 0, none⟩) 1 1) (by kernel_rfl) (by kernel_rfl) (by kernel_rfl) (by kernel_rfl) HAP.out ?_
            refine hK.out _ _ HC7.out (fun hHeld3 => ?_)
            clear hK K hHeld2
            refine wpAnyH_ready (rs := [11]) (by kernel_rfl) (by simp) (AllReadyH.cons rfl (fun K hK => ?_) AllReadyH.nil)
            refine wp_mapUpdate_run (m := .tmp 52) (x := .tmp 54) (v := .tmp 59) (t := 85) (mv := .map (some mb)) (kv := .string tn) (vv := v7) (by kernel_rfl) (by kernel_rfl) (by kernel_rfl) (by kernel_rfl) HMU.out ?_
            refine hK.out _ _ HC8.out (fun hHeld4 => ?_)
            refine wpAnyH_done (by kernel_rfl) ?_ _
            clear hK K hHeld3 hHeld4
            go_wp2_with fail
            go_end0
            refine ⟨rfl, ?_⟩
            rw [HST4.out]
            exact HR.out
          · have HST4 := hid (HST3.out.trans (if_neg (fun h => by simp at h)))
            go_wp2_with fail
            go_end0
            refine ⟨rfl, ?_⟩
            rw [HST4.out]
            exact FnRet.step HS6.out HSAME.out
        · have HST4 := hid (HST3.out.trans (if_neg (fun h => by simp at h)))
          cases ts
          · go_wp2_with fail
            go_end0
            refine ⟨rfl, ?_⟩
            rw [HST4.out]
            exact FnRet.step HS6.out HSAME.out
          · go_wp2_with fail
            go_end0
            refine ⟨rfl, ?_⟩
            rw [HST4.out]
            exact FnRet.step HS6.out HSAME.out
      · have HST3 := hid (HST2.out.trans (if_neg (by decide)))
        by_cases hz : x.op tn = []
        · have HST4 := hid (HST3.out.trans (if_pos hz))
          have hv0 : vn = 0 := by rw [HVN.out, hz]; rfl
          subst hv0
          go_wp2_with fail
          refine (HFO.out 4).mono ?_
          rintro e w7 ⟨rfl, hto⟩
          have HR := hid (FnRet.step HS6.out (HF6.out.found hsz6 hto).up)
          clear hto
          go_wp2_with fail
          go_end0
          refine ⟨rfl, ?_⟩
          rw [HST4.out]
          exact HR.out
        · have HST4 := hid (HST3.out.trans (if_neg hz))
          obtain ⟨r0, cap, hve, hc1, hc2, hip⟩ := ints_pop HVI.out hz
          rw [← HVN.out] at hve hc1 hip
          injection hve with hva _ hvc
          subst hva hvc
          have hv0 : 0 < vn := by
            rw [HVN.out]
            exact List.length_pos_iff.2 hz
          obtain ⟨w8, hmu, hr8⟩ := HPUT.out w5.drew.drew _ _ ⟨rfl, rfl, rfl, Nat.le_refl _, fun _ _ _ => rfl⟩ hip (by rw [List.length_dropLast, ← HVN.out]; omega) (.inl rfl)
          have HR := hid (FnRet.step HS6.out hr8)
          have hvpos : (0 : Int) < (vn : Int) := by omega
          have hcI : (vn : Int) ≤ (vc : Int) := by omega
          have hvw : IntKind.i64.wrap ((vn : Int) - 1) = ((vn - 1 : Nat) : Int) := by rw [IntWalk.i64_in _ (by omega)]; omega
          have hsl : ∀ W : World, (Instr.slice 52 (.slice (some ⟨r0, 0, none⟩) vn vc) none (some (.int .i64 ((vn - 1 : Nat) : Int))) none).run Tryz.prog W = .ok (.slice (some ⟨r0, 0, none⟩) (vn - 1) vc) W := slice_pop r0 vn vc hv0 (by omega) (by omega)
          clear hip hr8 HPUT hvl hz
          go_upto_region 9 with fail
          go_region
          try go_wp2_with fail
          go_end0
          refine ⟨rfl, ?_⟩
          rw [HST4.out]
          exact HR.out
end Go.Proofs.YtpnbkecchfhimaaGreatDoor
