/- Texts of LiN, LiO, LiT0, LiT, LiU0, merged by a program of mine. -/
import Derived.Test.YtpnbkecchfhimaaGreatDoorLiM1
import Derived.Test.YtpnbkecchfhimaaGreatDoorTkM1
import Derived.BigRegion

/- out of LiN -/
namespace Go.Proofs.YtpnbkecchfhimaaGreatDoor
open Go.RowKit Go.Shelf Go.Maps
open Go.Lib (hid)
set_option linter.unusedVariables false
set_option linter.unusedSimpArgs false
set_option maxRecDepth 100000

theorem FnRet.step {w w1 w2 : World} {g B mb n : Nat} {bv ov : Value} {x : Fs} (h : FnStep w w1 g mb ov ov) (k : FnRet w1 w2 g B mb n bv ov x) : FnRet w w2 g B mb n bv ov x := by
  obtain ⟨ov', n', a, b, c⟩ := k
  exact ⟨ov', n', a, b, h.trans c⟩
theorem FnW.same {w w' : World} {g B mb n : Nat} {bv ov : Value} {x : Fs} (h : FnW w g B mb n bv ov x) (hb : Below w.heap.size w w') : FnRet w w' g B mb n bv ov x := by
  obtain ⟨a, b⟩ := h.below hb
  exact ⟨ov, n, a, Nat.le_succ _, b⟩
/-- A tag's zero cells; a tag's store. -/
def tg0 : Array Value := #[.int .i64 0, .int .i64 0, .string ⟨#[]⟩, .slice none 0 0, .bool false, .bool false]
def gSet (w : World) (r : Nat) (k sz : Int) (nm : ByteArray) (v : Value) (sg cl : Bool) : World :=
  (((((w.setCell ⟨r, 0, none⟩ (.int .i64 k)).setCell ⟨r, 1, none⟩ (.int .i64 sz)).setCell ⟨r, 2, none⟩ (.string nm)).setCell ⟨r, 3, none⟩ v).setCell ⟨r, 4, none⟩ (.bool sg)).setCell ⟨r, 5, none⟩ (.bool cl)
theorem gSet_blk {w : World} {r : Nat} {k sz : Int} {nm : ByteArray} {v : Value} {sg cl : Bool} (h : Blk w r 110 tg0) : Blk (gSet w r k sz nm v sg cl) r 110 #[.int .i64 k, .int .i64 sz, .string nm, v, .bool sg, .bool cl] := by
  have := (((((h.set_ 0 (.int .i64 k)).set_ 1 (.int .i64 sz)).set_ 2 (.string nm)).set_ 3 v).set_ 4 (.bool sg)).set_ 5 (.bool cl)
  unfold gSet
  simpa [tg0] using this
theorem gSet_below {w w0 : World} {B r : Nat} {k sz : Int} {nm : ByteArray} {v : Value} {sg cl : Bool} (hB : B ≤ r) (h : Below B w0 w) : Below B w0 (gSet w r k sz nm v sg cl) :=
  ((((((h.setCell (p := ⟨r, 0, none⟩) hB _).setCell (p := ⟨r, 1, none⟩) hB _).setCell (p := ⟨r, 2, none⟩) hB _).setCell (p := ⟨r, 3, none⟩) hB _).setCell (p := ⟨r, 4, none⟩) hB _).setCell (p := ⟨r, 5, none⟩) hB _)
theorem stepL_esc {s : ByteArray} {x : Fs} {t : Tk} (h : t.kind = 6) : stepL s x t = if (readE s t.fr).whole = false then ⟨x.op, x.out ++ [⟨3, t.fr⟩]⟩ else x := by
  unfold stepL
  rw [if_neg (by omega), if_neg (by omega), if_pos h]
theorem stepL_com {s : ByteArray} {x : Fs} {t : Tk} (h : t.kind = 4 ∨ t.kind = 5) : stepL s x t = if (readV s t.fr).1.closed = false then ⟨x.op, x.out ++ [⟨0, t.fr⟩]⟩ else x := by
  unfold stepL
  rw [if_neg (by omega), if_neg (by omega), if_neg (by omega), if_pos h]
theorem out_le {x : Fs} {b : Nat} (h : FsOk x b) : x.out.length ≤ b := by
  have : ∀ (l : List Fg) (a : Nat), (l.Pairwise fun f g => f.at_ < g.at_) → (∀ f ∈ l, (a : Int) ≤ f.at_ ∧ f.at_ < b) → l = [] ∨ a + l.length ≤ b := by
    intro l
    induction l with
    | nil => intro a _ _; exact .inl rfl
    | cons y l ih =>
      intro a h1 h2
      rw [List.pairwise_cons] at h1
      have hy := h2 y (List.mem_cons_self ..)
      right
      rw [List.length_cons]
      rcases ih (a + 1) h1.2 fun f hf => ⟨by have := h1.1 f hf; omega, (h2 f (List.mem_cons_of_mem _ hf)).2⟩ with e | e
      · rw [e, List.length_nil]; omega
      · omega
  rcases this x.out 0 h.out_pw fun f hf => ⟨(h.out_in f hf).1, (h.out_in f hf).2.1⟩ with e | e
  · rw [e]; exact Nat.zero_le _
  · omega
set_option maxHeartbeats 8000000 in
theorem other_esc (g B mb n : Nat) (ov : Value) (x : Fs) (t : Tk) (s : ByteArray) (b : Option Addr) (bl bc : Nat) (w : World) (hf : FnW w g B mb n (.slice b bl bc) ov x) (hba : BA w b bl bc s) (hB : B ≤ w.heap.size) (hbl : bl ≤ 100000) (ho : x.out.length ≤ 90000) (hk : t.kind = 6) (hfr : t.fr < s.size) :
    Calls Tryz.prog 46 #[.pointer (some ⟨g, 0, none⟩), .agg (tkC t)] w fun e w' => e = .returned (.tuple #[]) ∧ FnRet w w' g B mb n (.slice b bl bc) ov (stepL s x t) := by
  have hst := stepL_esc (s := s) (x := x) hk
  obtain ⟨tk, tf, tt, tn, tr, ts⟩ := t
  simp only at hk hfr hst
  subst hk
  have hb1 := (Below.refl w.heap.size w).alloc (Nat.le_refl _) (.cells (tkC ⟨6, tf, tt, tn, tr, ts⟩) 29)
  obtain ⟨hf1, hs1⟩ := hf.below hb1
  have hq1 := Blk.new w 29 (tkC ⟨6, tf, tt, tn, tr, ts⟩)
  have hba1 := hba.below hb1 (Nat.le_refl _)
  have hsz1 : B ≤ (w.alloc (.cells (tkC ⟨6, tf, tt, tn, tr, ts⟩) 29)).heap.size := Nat.le_trans hB hb1.size
  unfold tkC at hb1 hf1 hs1 hq1 hba1 hsz1 ⊢
  simp only at hb1 hf1 hs1 hq1 hba1 hsz1 ⊢
  have x0 := hq1.cell 0
  have x1 := hq1.cell 1
  have y0 := hf1.at_.1.cell 0
  simp only [List.getElem?_toArray, List.getElem?_cons_zero, List.getElem?_cons_succ] at x0 x1 y0
  have HF1 := hid hf1
  have HS1 := hid hs1
  have HBA1 := hid hba1
  obtain ⟨ez, ew, eo, el, hew, hre⟩ : ∃ (ez : Int) (ew eo : Bool) (el : Int), (readE s tf).whole = ew ∧ ∀ W, BA W b bl bc s → Calls Tryz.prog 59 #[.slice b bl bc, .int .i64 tf] W fun e w' => e = .returned (.agg #[.int .i64 ez, .bool ew, .bool eo, .int .u8 el]) ∧ Below W.heap.size W w' :=
    ⟨_, _, _, _, rfl, fun W h => read_any_a b bl bc (tf : Int) s W h (by omega) (by have := hba.1; omega)⟩
  have hfl : ∀ W : World, (Instr.field 106 (.agg #[.int .i64 ez, .bool ew, .bool eo, .int .u8 el]) 1).run Tryz.prog W = .ok (.bool ew) W := fun W => by kernel_rfl
  have HRE := hid hre
  rw [hew] at hst
  have HST := hid hst
  have hg1 := hf1.at_.1.lt
  have hql := hq1.lt
  clear hf hba hb1 hf1 hs1 hq1 hba1 hst hre hew
  go_enter Tryz.func46, Tryz.ntmps46
  go_upto_region 2 with fail
  generalize w.alloc (.cells #[.int .i64 6, .int .i64 tf, .int .i64 tt, .string tn, .int .i32 tr, .bool ts] 29) = w1 at *
  have HB1d := hid (show Below w1.heap.size w1 w1.drew from ⟨rfl, rfl, rfl, Nat.le_refl _, fun _ _ => rfl⟩)
  go_region_with (go_at_call 59; refine (HRE.out _ (HBA1.out.below HB1d.out (Nat.le_refl _))).mono ?_; rintro e w2 ⟨rfl, hb2⟩; have HB2 := hid (HB1d.out.trans hb2); clear hb2)
  all_goals
    obtain ⟨hf2, hs2⟩ := HF1.out.below HB2.out
    have HF2 := hid hf2
    have HS2 := hid (HS1.out.trans hs2)
    have x1' := (HB2.out.cell (p := ⟨w.heap.size, 1, none⟩) hql).trans x1
    have hsz2 := Nat.le_trans hsz1 HB2.out.size
    clear hf2 hs2
    cases ew
    · have HFO := hid (found_any g B (.slice b bl bc) (.map (some mb)) ov x.out 3 (tf : Int) w2 HF2.out.at_ HF2.out.gB hsz2 (by omega))
      go_wp2_with fail
      refine HFO.out.mono ?_
      rintro e w3 ⟨rfl, hto⟩
      have HR := hid (FnRet.step HS2.out (HF2.out.found hsz2 hto).up)
      clear hto
      go_wp2_with fail
      refine bodyPost_ret (results_none rfl _ _ _) rfl ?_
      refine ⟨rfl, ?_⟩
      first
      | rw [HST.out, if_pos rfl]
      | rw [HST.out, if_pos trivial]
      exact HR.out
    · go_wp2_with fail
      refine bodyPost_ret (results_none rfl _ _ _) rfl ?_
      refine ⟨rfl, ?_⟩
      rw [HST.out, if_neg (by decide)]
      exact ⟨ov, n, HF2.out, Nat.le_succ _, HS2.out⟩
end Go.Proofs.YtpnbkecchfhimaaGreatDoor

/- out of LiO -/
namespace Go.Proofs.YtpnbkecchfhimaaGreatDoor
open Go.RowKit Go.Shelf Go.Maps
open Go.Lib (hid)
set_option linter.unusedVariables false
set_option linter.unusedSimpArgs false
set_option maxRecDepth 100000

set_option maxHeartbeats 8000000 in
theorem other_com (g B mb n : Nat) (ov : Value) (x : Fs) (t : Tk) (s : ByteArray) (b : Option Addr) (bl bc : Nat) (w : World) (hf : FnW w g B mb n (.slice b bl bc) ov x) (hba : BA w b bl bc s) (hB : B ≤ w.heap.size) (hbl : bl ≤ 100000) (ho : x.out.length ≤ 90000) (hk : t.kind = 4 ∨ t.kind = 5) (hfr : t.fr < s.size) (hmx : Mx w) :
    Calls Tryz.prog 46 #[.pointer (some ⟨g, 0, none⟩), .agg (tkC t)] w fun e w' => e = .returned (.tuple #[]) ∧ FnRet w w' g B mb n (.slice b bl bc) ov (stepL s x t) := by
  have hst := stepL_com (s := s) (x := x) hk
  obtain ⟨tk, tf, tt, tn, tr, ts⟩ := t
  simp only at hk hfr hst
  have hb1 := (Below.refl w.heap.size w).alloc (Nat.le_refl _) (.cells (tkC ⟨tk, tf, tt, tn, tr, ts⟩) 29)
  obtain ⟨hf1, hs1⟩ := hf.below hb1
  have hq1 := Blk.new w 29 (tkC ⟨tk, tf, tt, tn, tr, ts⟩)
  have hba1 := hba.below hb1 (Nat.le_refl _)
  have hmx1 := hmx.below hb1 (Nat.le_refl _)
  have hsz1 : B ≤ (w.alloc (.cells (tkC ⟨tk, tf, tt, tn, tr, ts⟩) 29)).heap.size := Nat.le_trans hB hb1.size
  unfold tkC at hb1 hf1 hs1 hq1 hba1 hsz1 hmx1 ⊢
  simp only at hb1 hf1 hs1 hq1 hba1 hsz1 hmx1 ⊢
  have x0 := hq1.cell 0
  have x1 := hq1.cell 1
  have y0 := hf1.at_.1.cell 0
  simp only [List.getElem?_toArray, List.getElem?_cons_zero, List.getElem?_cons_succ] at x0 x1 y0
  have HF1 := hid hf1
  have HS1 := hid hs1
  have HBA1 := hid hba1
  have HMX1 := hid hmx1
  obtain ⟨mk, msz, mnm, mln, msg, mcl, hmc, hrd⟩ : ∃ (mk msz : Int) (mnm : ByteArray) (mln : Nat) (msg mcl : Bool), (readV s tf).1.closed = mcl ∧ ∀ W, BA W b bl bc s → Mx W → Calls Tryz.prog 60 #[.slice b bl bc, .int .i64 tf] W fun e w' => ∃ A c, e = .returned (.tuple #[.agg #[.int .i64 mk, .int .i64 msz, .string mnm, .slice A mln c, .bool msg, .bool mcl], .bool (readV s tf).2]) ∧ Below W.heap.size W w' :=
    ⟨_, _, _, _, _, _, rfl, fun W h ⟨m, hm⟩ => (read_any W b bl bc (tf : Int) m s h.1 h.2.2.2 h.2.1 h.2.2.1 (by omega) (by have := h.1; omega) hm).mono fun e w' ⟨v, he, hb, hov⟩ => by
      obtain ⟨A, c, rfl⟩ := owns_slice hov
      exact ⟨A, c, he, hb⟩⟩
  generalize (readV s tf).2 = mok at *
  have HRD := hid hrd
  rw [hmc] at hst
  have HST := hid hst
  have hg1 := hf1.at_.1.lt
  have hql := hq1.lt
  have hkb : (tk == 6) = false := by rw [beq_eq_false_iff_ne]; omega
  clear hf hba hb1 hf1 hs1 hq1 hba1 hst hrd hmc hk hmx hmx1
  go_enter Tryz.func46, Tryz.ntmps46
  go_upto_region 4 with fail
  generalize w.alloc (.cells #[.int .i64 tk, .int .i64 tf, .int .i64 tt, .string tn, .int .i32 tr, .bool ts] 29) = w1 at *
  generalize w.heap.size = q at *
  have HSS := hid (fun (w' : World) (h : Below w1.heap.size w1 w') => (show w'.cell? ⟨g, 0, none⟩ = some (.slice b bl bc) ∧ w'.cell? ⟨q, 1, none⟩ = some (.int .i64 tf) from ⟨(h.cell (p := ⟨g, 0, none⟩) hg1).trans y0, (h.cell (p := ⟨q, 1, none⟩) hql).trans x1⟩))
  have HB1d := hid (show Below w1.heap.size w1 w1.drew from ⟨rfl, rfl, rfl, Nat.le_refl _, fun _ _ => rfl⟩)
  refine wp_region_held_drew (S := fun w' : World => w'.cell? ⟨g, 0, none⟩ = some (.slice b bl bc) ∧ w'.cell? ⟨q, 1, none⟩ = some (.int .i64 tf)) (by kernel_rfl) (HSS.out _ HB1d.out) (fun hHeld => ?_)
  refine wpAnyH_take (i := 0) (v := ?hv1) rfl (by kernel_rfl) (by kernel_rfl) (by kernel_rfl) (fun _ _ _ h => h) (Or.inl ⟨by rfl, ?hy1⟩) (by assumption) ?hr1
  case hy1 => (intro w hSw; (try dsimp only at hSw); go_simp; try with_reducible rfl)
  (try simp only [Act.put, List.getElem_toArray, List.getElem_cons_zero, List.setIfInBounds_toArray, List.set_cons_zero, List.set_cons_succ])
  refine wpAnyH_take (i := 1) (v := ?hv2) rfl (by kernel_rfl) (by kernel_rfl) (by kernel_rfl) (fun _ _ _ h => h) (Or.inl ⟨by rfl, ?hy2⟩) (by assumption) ?hr2
  case hy2 => (intro w hSw; (try dsimp only at hSw); go_simp; try with_reducible rfl)
  (try simp only [Act.put, List.getElem_toArray, List.getElem_cons_zero, List.getElem_cons_succ, List.setIfInBounds_toArray, List.set_cons_zero, List.set_cons_succ])
  refine wpAnyH_take (i := 2) (v := ?hv3) rfl (by kernel_rfl) (by kernel_rfl) (by kernel_rfl) (fun _ _ _ h => h) (Or.inl ⟨by rfl, ?hy3⟩) (by assumption) ?hr3
  case hy3 => (intro w hSw; (try dsimp only at hSw); go_simp; try with_reducible rfl)
  (try simp only [Act.put, List.getElem_toArray, List.getElem_cons_zero, List.getElem_cons_succ, List.setIfInBounds_toArray, List.set_cons_zero, List.set_cons_succ])
  refine wpAnyH_take (i := 3) (v := ?hv4) rfl (by kernel_rfl) (by kernel_rfl) (by kernel_rfl) (fun _ _ _ h => h) (Or.inl ⟨by rfl, ?hy4⟩) (by assumption) ?hr4
  case hy4 => (intro w hSw; (try dsimp only at hSw); go_simp; try with_reducible rfl)
  (try simp only [Act.put, List.getElem_toArray, List.getElem_cons_zero, List.getElem_cons_succ, List.setIfInBounds_toArray, List.set_cons_zero, List.set_cons_succ])
  refine wpAnyH_take (i := 4) (v := ?hv5) rfl (by kernel_rfl) (by kernel_rfl) (by kernel_rfl) (fun _ _ _ h => h) (Or.inl ⟨by rfl, ?hy5⟩) (by assumption) ?hr5
  case hy5 => (intro w hSw; (try dsimp only at hSw); go_simp; try with_reducible rfl)
  (try simp only [Act.put, List.getElem_toArray, List.getElem_cons_zero, List.getElem_cons_succ, List.setIfInBounds_toArray, List.set_cons_zero, List.set_cons_succ])
  refine wpAnyH_take (i := 5) (v := ?hv6) rfl (by kernel_rfl) (by kernel_rfl) (by kernel_rfl) (fun _ _ _ h => h) (Or.inl ⟨by rfl, ?hy6⟩) (by assumption) ?hr6
  case hy6 => (intro w hSw; (try dsimp only at hSw); go_simp; try with_reducible rfl)
  (try simp only [Act.put, List.getElem_toArray, List.getElem_cons_zero, List.getElem_cons_succ, List.setIfInBounds_toArray, List.set_cons_zero, List.set_cons_succ])
  refine wpAnyH_ready (rs := [6, 10]) (by kernel_rfl) (by simp) ?_
  refine AllReadyH.cons rfl (fun K hK => ?_) (AllReadyH.cons rfl (fun K hK => ?_) AllReadyH.nil)
  · go_simp
    go_at_call 60
    refine (HRD.out _ (HBA1.out.below HB1d.out (Nat.le_refl _)) (HMX1.out.below HB1d.out (Nat.le_refl _))).mono ?_
    rintro e w2 ⟨A, c, rfl, hb2⟩
    have HB2 := hid (HB1d.out.trans hb2)
    clear hb2
    go_wp2_with fail
    refine hK.out _ _ (HSS.out _ HB2.out) (fun hHeld2 => ?_)
    clear hK K hHeld
    refine wpAnyH_take (i := 7) (v := ?hv7) rfl (by kernel_rfl) (by kernel_rfl) (by kernel_rfl) (fun _ _ _ h => h) (Or.inl ⟨by rfl, ?hy7⟩) (by assumption) ?hr7
    case hy7 => (intro w hSw; (try dsimp only at hSw); go_simp; try with_reducible rfl)
    (try simp only [Act.put, List.getElem_toArray, List.getElem_cons_zero, List.getElem_cons_succ, List.setIfInBounds_toArray, List.set_cons_zero, List.set_cons_succ])
    refine wpAnyH_take (i := 8) (v := ?hv8) rfl (by kernel_rfl) (by kernel_rfl) (by kernel_rfl) (fun _ _ _ h => h) (Or.inl ⟨by rfl, ?hy8⟩) (by assumption) ?hr8
    case hy8 => (intro w hSw; (try dsimp only at hSw); go_simp; try with_reducible rfl)
    (try simp only [Act.put, List.getElem_toArray, List.getElem_cons_zero, List.getElem_cons_succ, List.setIfInBounds_toArray, List.set_cons_zero, List.set_cons_succ])
    refine wpAnyH_take (i := 9) (v := ?hv9) rfl (by kernel_rfl) (by kernel_rfl) (by kernel_rfl) (fun _ _ _ h => h) (Or.inl ⟨by rfl, ?hy9⟩) (by assumption) ?hr9
    case hy9 => (intro w hSw; (try dsimp only at hSw); go_simp; try with_reducible rfl)
    (try simp only [Act.put, List.getElem_toArray, List.getElem_cons_zero, List.getElem_cons_succ, List.setIfInBounds_toArray, List.set_cons_zero, List.set_cons_succ])
    have hs2 := HB2.out.size
    have HQ3 := hid (Blk.new w2 110 tg0)
    have HB3 := hid (HB2.out.alloc hs2 (.cells tg0 110))
    refine wpAnyH_ready (rs := [10]) (by kernel_rfl) (by simp) ?_
    refine AllReadyH.cons rfl (fun K hK => ?_) AllReadyH.nil
    go_wp2_with fail
    refine hK.out _ _ (HSS.out _ HB3.out) (fun hHeld3 => ?_)
    clear hK K hHeld2
    obtain ⟨w3, hw3⟩ : ∃ w3, w3 = w2.alloc (.cells tg0 110) := ⟨_, rfl⟩
    have hw3b := hw3
    unfold tg0 at hw3b
    rw [← hw3b] at hHeld3 ⊢
    rw [← hw3] at HQ3 HB3
    clear hw3 hw3b
    generalize w2.heap.size = r at *
    have hrB : w1.heap.size ≤ r := hs2
    have yf := HQ3.out.frozen
    have z0 := HQ3.out.cell 0
    have z1 := HQ3.out.cell 1
    have z2 := HQ3.out.cell 2
    have z3 := HQ3.out.cell 3
    have z4 := HQ3.out.cell 4
    have z5 := HQ3.out.cell 5
    simp only [tg0, List.getElem?_toArray, List.getElem?_cons_zero, List.getElem?_cons_succ] at z0 z1 z2 z3 z4 z5
    have HQ4 := hid (gSet_blk (k := mk) (sz := msz) (nm := mnm) (v := .slice A mln c) (sg := msg) (cl := mcl) HQ3.out)
    have HB4 := hid (gSet_below (r := r) (k := mk) (sz := msz) (nm := mnm) (v := .slice A mln c) (sg := msg) (cl := mcl) hrB HB3.out)
    refine wpAnyH_ready (rs := [11]) (by kernel_rfl) (by simp) (AllReadyH.cons rfl (fun K hK => ?_) AllReadyH.nil)
    go_simp
    refine hK.out _ (gSet w3 r mk msz mnm (.slice A mln c) msg mcl) (HSS.out _ HB4.out) (fun hHeld4 => ?_)
    clear hK K hHeld3
    try simp only [List.setIfInBounds_toArray, List.set_cons_zero, List.set_cons_succ, Act.put]
    refine wpAnyH_take (i := 12) (v := ?hv10) rfl (by kernel_rfl) (by kernel_rfl) (by kernel_rfl) (fun _ _ _ h => h) (Or.inl ⟨by rfl, ?hy10⟩) (by assumption) ?hr10
    case hy10 => (intro w hSw; (try dsimp only at hSw); go_simp; try with_reducible rfl)
    (try simp only [Act.put, List.getElem_toArray, List.getElem_cons_zero, List.getElem_cons_succ, List.setIfInBounds_toArray, List.set_cons_zero, List.set_cons_succ])
    refine wpAnyH_done (by kernel_rfl) ?_ _
    clear hHeld4 z0 z1 z2 z3 z4 z5 yf
    generalize gSet w3 r mk msz mnm (.slice A mln c) msg mcl = wz at *
    have z5 := HQ4.out.cell 5
    simp only [List.getElem?_toArray, List.getElem?_cons_zero, List.getElem?_cons_succ] at z5
    obtain ⟨hf2, hs2'⟩ := HF1.out.below HB4.out
    have HF2 := hid hf2
    have HS2 := hid (HS1.out.trans hs2')
    have x1' := (HB4.out.cell (p := ⟨q, 1, none⟩) hql).trans x1
    have hsz2 := Nat.le_trans hsz1 HB4.out.size
    clear hf2 hs2'
    cases mcl
    · have HFO := hid (found_any g B (.slice b bl bc) (.map (some mb)) ov x.out 0 (tf : Int) wz HF2.out.at_ HF2.out.gB hsz2 (by omega))
      go_wp2_with fail
      refine HFO.out.mono ?_
      rintro e w5 ⟨rfl, hto⟩
      have HR := hid (FnRet.step HS2.out (HF2.out.found hsz2 hto).up)
      clear hto
      go_wp2_with fail
      go_end0
      refine ⟨rfl, ?_⟩
      first
      | rw [HST.out, if_pos rfl]
      | rw [HST.out, if_pos trivial]
      exact HR.out
    · go_wp2_with fail
      go_end0
      refine ⟨rfl, ?_⟩
      first
      | rw [HST.out, if_neg (by decide)]
      | rw [HST.out, if_neg not_false]
      exact ⟨ov, n, HF2.out, Nat.le_succ _, HS2.out⟩
  · have HB2 := hid (show Below w1.heap.size w1 (w1.alloc (.cells tg0 110)).drew from ((Below.refl w1.heap.size w1).alloc (Nat.le_refl _) (.cells tg0 110)).drew)
    have HQ2 := hid (show Blk (w1.alloc (.cells tg0 110)).drew w1.heap.size 110 tg0 from Blk.drew (Blk.new w1 110 tg0))
    go_wp2_with fail
    refine hK.out _ _ (HSS.out _ HB2.out) (fun hHeld2 => ?_)
    clear hK K hHeld
    obtain ⟨w2, hw2⟩ : ∃ w2, w2 = (w1.alloc (.cells tg0 110)).drew := ⟨_, rfl⟩
    have hw2b := hw2
    unfold tg0 at hw2b
    rw [← hw2b] at hHeld2 ⊢
    rw [← hw2] at HQ2 HB2
    clear hw2 hw2b
    have hrB : w1.heap.size ≤ w1.heap.size := Nat.le_refl _
    obtain ⟨r, hr⟩ : ∃ r, r = w1.heap.size := ⟨_, rfl⟩
    rw [← hr] at HQ2 ⊢
    have hrB : w1.heap.size ≤ r := by omega
    clear hr
    refine wpAnyH_ready (rs := [6]) (by kernel_rfl) (by simp) (AllReadyH.cons rfl (fun K hK => ?_) AllReadyH.nil)
    go_simp
    go_at_call 60
    refine (HRD.out _ (HBA1.out.below HB2.out (Nat.le_refl _)) (HMX1.out.below HB2.out (Nat.le_refl _))).mono ?_
    rintro e w3 ⟨A, c, rfl, hb3⟩
    have HB3 := hid (HB2.out.trans (hb3.mono HB2.out.size))
    have HQ3 := hid (HQ2.out.below hb3 HQ2.out.lt)
    clear hb3
    go_wp2_with fail
    refine hK.out _ _ (HSS.out _ HB3.out) (fun hHeld3 => ?_)
    clear hK K hHeld2
    refine wpAnyH_take (i := 7) (v := ?hv11) rfl (by kernel_rfl) (by kernel_rfl) (by kernel_rfl) (fun _ _ _ h => h) (Or.inl ⟨by rfl, ?hy11⟩) (by assumption) ?hr11
    case hy11 => (intro w hSw; (try dsimp only at hSw); go_simp; try with_reducible rfl)
    (try simp only [Act.put, List.getElem_toArray, List.getElem_cons_zero, List.getElem_cons_succ, List.setIfInBounds_toArray, List.set_cons_zero, List.set_cons_succ])
    refine wpAnyH_take (i := 8) (v := ?hv12) rfl (by kernel_rfl) (by kernel_rfl) (by kernel_rfl) (fun _ _ _ h => h) (Or.inl ⟨by rfl, ?hy12⟩) (by assumption) ?hr12
    case hy12 => (intro w hSw; (try dsimp only at hSw); go_simp; try with_reducible rfl)
    (try simp only [Act.put, List.getElem_toArray, List.getElem_cons_zero, List.getElem_cons_succ, List.setIfInBounds_toArray, List.set_cons_zero, List.set_cons_succ])
    refine wpAnyH_take (i := 9) (v := ?hv13) rfl (by kernel_rfl) (by kernel_rfl) (by kernel_rfl) (fun _ _ _ h => h) (Or.inl ⟨by rfl, ?hy13⟩) (by assumption) ?hr13
    case hy13 => (intro w hSw; (try dsimp only at hSw); go_simp; try with_reducible rfl)
    (try simp only [Act.put, List.getElem_toArray, List.getElem_cons_zero, List.getElem_cons_succ, List.setIfInBounds_toArray, List.set_cons_zero, List.set_cons_succ])
    have yf := HQ3.out.frozen
    have z0 := HQ3.out.cell 0
    have z1 := HQ3.out.cell 1
    have z2 := HQ3.out.cell 2
    have z3 := HQ3.out.cell 3
    have z4 := HQ3.out.cell 4
    have z5 := HQ3.out.cell 5
    simp only [tg0, List.getElem?_toArray, List.getElem?_cons_zero, List.getElem?_cons_succ] at z0 z1 z2 z3 z4 z5
    have HQ4 := hid (gSet_blk (k := mk) (sz := msz) (nm := mnm) (v := .slice A mln c) (sg := msg) (cl := mcl) HQ3.out)
    have HB4 := hid (gSet_below (r := r) (k := mk) (sz := msz) (nm := mnm) (v := .slice A mln c) (sg := msg) (cl := mcl) hrB HB3.out)
    refine wpAnyH_ready (rs := [11]) (by kernel_rfl) (by simp) (AllReadyH.cons rfl (fun K hK => ?_) AllReadyH.nil)
    go_simp
    refine hK.out _ (gSet w3 r mk msz mnm (.slice A mln c) msg mcl) (HSS.out _ HB4.out) (fun hHeld4 => ?_)
    clear hK K hHeld3
    try simp only [List.setIfInBounds_toArray, List.set_cons_zero, List.set_cons_succ, Act.put]
    refine wpAnyH_take (i := 12) (v := ?hv14) rfl (by kernel_rfl) (by kernel_rfl) (by kernel_rfl) (fun _ _ _ h => h) (Or.inl ⟨by rfl, ?hy14⟩) (by assumption) ?hr14
    case hy14 => (intro w hSw; (try dsimp only at hSw); go_simp; try with_reducible rfl)
    (try simp only [Act.put, List.getElem_toArray, List.getElem_cons_zero, List.getElem_cons_succ, List.setIfInBounds_toArray, List.set_cons_zero, List.set_cons_succ])
    refine wpAnyH_done (by kernel_rfl) ?_ _
    clear hHeld4 z0 z1 z2 z3 z4 z5 yf
    generalize gSet w3 r mk msz mnm (.slice A mln c) msg mcl = wz at *
    have z5 := HQ4.out.cell 5
    simp only [List.getElem?_toArray, List.getElem?_cons_zero, List.getElem?_cons_succ] at z5
    obtain ⟨hf2, hs2'⟩ := HF1.out.below HB4.out
    have HF2 := hid hf2
    have HS2 := hid (HS1.out.trans hs2')
    have x1' := (HB4.out.cell (p := ⟨q, 1, none⟩) hql).trans x1
    have hsz2 := Nat.le_trans hsz1 HB4.out.size
    clear hf2 hs2'
    cases mcl
    · have HFO := hid (found_any g B (.slice b bl bc) (.map (some mb)) ov x.out 0 (tf : Int) wz HF2.out.at_ HF2.out.gB hsz2 (by omega))
      go_wp2_with fail
      refine HFO.out.mono ?_
      rintro e w5 ⟨rfl, hto⟩
      have HR := hid (FnRet.step HS2.out (HF2.out.found hsz2 hto).up)
      clear hto
      go_wp2_with fail
      go_end0
      refine ⟨rfl, ?_⟩
      first
      | rw [HST.out, if_pos rfl]
      | rw [HST.out, if_pos trivial]
      exact HR.out
    · go_wp2_with fail
      go_end0
      refine ⟨rfl, ?_⟩
      first
      | rw [HST.out, if_neg (by decide)]
      | rw [HST.out, if_neg not_false]
      exact ⟨ov, n, HF2.out, Nat.le_succ _, HS2.out⟩
end Go.Proofs.YtpnbkecchfhimaaGreatDoor

/- out of LiT0 -/
namespace Go.Proofs.YtpnbkecchfhimaaGreatDoor
open Go.RowKit Go.Shelf Go.Maps
open Go.Lib (hid)
set_option linter.unusedVariables false
set_option maxRecDepth 100000

theorem txFg_fuel : ∀ (f g : Nat) (zs : List Int) (b : Int), zs.length ≤ f → zs.length ≤ g → txFg f zs b = txFg g zs b
  | 0, g, zs, b, h1, h2 => by
    have : zs = [] := List.length_eq_zero_iff.1 (by omega)
    subst this
    cases g with
    | zero => rfl
    | succ g => unfold txFg; rw [if_pos rfl]
  | f + 1, 0, zs, b, h1, h2 => by
    have : zs = [] := List.length_eq_zero_iff.1 (by omega)
    subst this
    unfold txFg
    rw [if_pos rfl]
  | f + 1, g + 1, [], b, h1, h2 => by unfold txFg; rw [if_pos rfl, if_pos rfl]
  | f + 1, g + 1, c :: t, b, h1, h2 => by
    have hz := S1.readF_size c t
    unfold txFg
    rw [if_neg (by simp), if_neg (by simp), txFg_fuel f g _ _ (by rw [List.length_drop]; simp at h1 ⊢; omega) (by rw [List.length_drop]; simp at h2 ⊢; omega)]
/-- What is found in a text. -/
def txA (zs : List Int) (b : Int) : List Fg := txFg zs.length zs b
theorem txA_nil (b : Int) : txA [] b = [] := rfl
theorem txA_step {zs : List Int} {i : Nat} (h : i < zs.length) (b : Int) : txA (zs.drop i) (b + i) = pcFg (zs.drop i) (b + i) ++ txA (zs.drop (i + (S1.readF (zs.drop i)).2.1)) (b + (i + (S1.readF (zs.drop i)).2.1 : Nat)) := by
  obtain ⟨c, t, e⟩ := List.exists_cons_of_ne_nil (show zs.drop i ≠ [] by simp; omega)
  have hz := S1.readF_size c t
  rw [← e] at hz
  unfold txA
  have hl : (zs.drop i).length = zs.length - i := List.length_drop ..
  obtain ⟨f, hf⟩ : ∃ f, (zs.drop i).length = f + 1 := ⟨zs.length - i - 1, by omega⟩
  rw [hf, txFg, if_neg (by rw [e]; simp), List.drop_drop]
  congr 1
  rw [show b + (i : Int) + (((S1.readF (zs.drop i)).2.1 : Nat) : Int) = b + ((i + (S1.readF (zs.drop i)).2.1 : Nat) : Int) by omega]
  exact txFg_fuel _ _ _ _ (by rw [List.length_drop]; omega) (Nat.le_refl _)
theorem stepL_text {s : ByteArray} {x : Fs} {t : Tk} (h : t.kind = 0) (hl : (segL s t).length = t.til - t.fr) : stepL s x t = ⟨x.op, x.out ++ txA (segL s t) t.fr⟩ := by
  unfold stepL txA
  rw [if_pos h, hl]
theorem pcFg_len (zs : List Int) (b : Int) : (pcFg zs b).length ≤ 1 := by
  unfold pcFg
  split
  · simp
  · split <;> simp
theorem FnRet0.trans {w w1 w2 : World} {g B mb n : Nat} {bv ov ov1 : Value} {x : Fs} (h : FnStep w w1 g mb ov ov1) (k : FnRet0 w1 w2 g B mb n bv ov1 x) : FnRet0 w w2 g B mb n bv ov x := by
  obtain ⟨ov', a, c⟩ := k
  exact ⟨ov', a, h.trans c⟩
theorem sb_keep {w w' : World} {bb o cap : Nat} {zs : List Int} (h : S1.SB w (some ⟨bb, o, none⟩) cap zs) (hb : w'.heap[bb]? = w.heap[bb]?) (hs : w.heap.size ≤ w'.heap.size) : S1.SB w' (some ⟨bb, o, none⟩) cap zs := by
  obtain ⟨h1, h2, h3, h4⟩ := h
  refine ⟨h1, h2, h3, ?_⟩
  rcases h4 with h | ⟨b, off, e, hlt, hr⟩
  · exact .inl h
  · injection e with e
    injection e with e1 e2 _
    subst e1 e2
    refine .inr ⟨bb, o, rfl, by omega, fun i hi => ?_⟩
    exact (World.cell?_of_block (a := ⟨bb, o + i, none⟩) hb).trans (hr i hi)
/-- A piece of a slice of bytes. -/
theorem sb_sub {w : World} {bb o cap : Nat} {zs : List Int} (h : S1.SB w (some ⟨bb, o, none⟩) cap zs) (i k : Nat) (hk : 0 < k) (hi : i + k ≤ zs.length) : S1.SB w (some ⟨bb, o + i, none⟩) (cap - i) ((zs.drop i).take k) := by
  obtain ⟨h1, h2, h3, h4⟩ := h
  have hl : ((zs.drop i).take k).length = k := by rw [List.length_take, List.length_drop]; omega
  refine ⟨by omega, by omega, fun y hy => h3 y (List.mem_of_mem_drop (List.mem_of_mem_take hy)), ?_⟩
  rcases h4 with h | ⟨b, off, e, hlt, hr⟩
  · subst h; simp at hi; omega
  · injection e with e
    injection e with e1 e2 _
    subst e1 e2
    refine .inr ⟨bb, o + i, rfl, hlt, fun j hj => ?_⟩
    rw [hl] at hj
    have := hr (i + j) (by omega)
    rw [← Nat.add_assoc] at this
    rw [this, List.getD_eq_getElem?_getD, List.getD_eq_getElem?_getD, List.getElem?_take, if_pos hj, List.getElem?_drop]
end Go.Proofs.YtpnbkecchfhimaaGreatDoor

/- out of LiT -/
namespace Go.Proofs.YtpnbkecchfhimaaGreatDoor
open Go.RowKit Go.Shelf Go.Maps
open Go.Lib (hid)
set_option linter.unusedVariables false
set_option linter.unusedSimpArgs false
set_option maxRecDepth 100000

theorem sb_of_baL {w : World} {a : Option Addr} {n cap : Nat} {s : ByteArray} (h : BA w a n cap s) : S1.SB w a cap (intsOf s) ∧ n = (intsOf s).length := by
  have hl := intsOf_len s
  refine ⟨⟨by rw [hl, ← h.1]; exact h.2.1, h.2.2.1, ?_, ?_⟩, by rw [hl, h.1]⟩
  · intro y hy
    have := intsOf_rng s y hy
    omega
  · by_cases h0 : 0 < n
    · obtain ⟨b, off, e, hb, hz⟩ := h.2.2.2 h0
      refine .inr ⟨b, off, e, hb, fun k hk => ?_⟩
      rw [intsOf_get]
      exact bytes_cell hz (by rw [hl] at hk; exact hk)
    · exact .inl (List.eq_nil_of_length_eq_zero (by rw [hl, ← h.1]; omega))
theorem seg_drop (s : ByteArray) (i j : Nat) (hj : j ≤ s.size) : intsOf (s.extract i j) = ((intsOf s).drop i).take (j - i) := by
  unfold intsOf
  simp [ByteArray.data_extract, List.map_drop, List.map_take, ← List.drop_take]
/-- What the finder keeps while a text is looked at. -/
theorem fn_next {w w' : World} {g B mb n : Nat} {bv ov : Value} {x : Fs} (h : FnW w g B mb n bv ov x) (hb : Below w.heap.size w w') : FnW w' g B mb n bv ov x ∧ FnStep w w' g mb ov ov := h.below hb
set_option maxHeartbeats 16000000 in
theorem fnText_any (g B mb n : Nat) (ov : Value) (x : Fs) (t : Tk) (s : ByteArray) (bb off bl bc : Nat) (w : World) (hf : FnW w g B mb n (.slice (some ⟨bb, off, none⟩) bl bc) ov x) (hba : BA w (some ⟨bb, off, none⟩) bl bc s) (hB : B ≤ w.heap.size) (hbl : bl ≤ 100000) (ho : x.out.length ≤ t.fr) (hk : t.kind = 0) (hfr : t.fr < t.til) (hti : t.til ≤ s.size) (hp : Prot w g mb ov bb) :
    Calls Tryz.prog 44 #[.pointer (some ⟨g, 0, none⟩), .agg (tkC t)] w fun e w' => e = .returned (.tuple #[]) ∧ FnRet0 w w' g B mb n (.slice (some ⟨bb, off, none⟩) bl bc) ov (stepL s x t) := by
  have hsg : (segL s t).length = t.til - t.fr := by unfold segL; rw [intsOf_len, ByteArray.size_extract]; omega
  have hst := stepL_text (s := s) (x := x) hk hsg
  obtain ⟨tk, tf, tt, tn, tr, ts⟩ := t
  simp only at hk hfr hst hti ho hsg
  subst hk
  have hb1 := (Below.refl w.heap.size w).alloc (Nat.le_refl _) (.cells (tkC ⟨0, tf, tt, tn, tr, ts⟩) 29)
  obtain ⟨hf1, hs1⟩ := hf.below hb1
  have hp1 := (hs1.block bb hp).2
  have hq1 := Blk.new w 29 (tkC ⟨0, tf, tt, tn, tr, ts⟩)
  have hba1 := hba.below hb1 (Nat.le_refl _)
  have hqp : Prot (w.alloc (.cells (tkC ⟨0, tf, tt, tn, tr, ts⟩) 29)) g mb ov w.heap.size := by
    obtain ⟨D, hD, _⟩ := hf.grp
    refine ⟨hq1.lt, fun e => ?_, fun e => ?_, fun e => ?_, ?_⟩
    · have := hf.at_.1.lt; omega
    · have := hD.lt; omega
    · have := own_lt hf.at_.2 e; omega
    · have h0 : w.Shuns mb fun _ => False := fun _ _ _ _ _ _ _ e => e
      have h2 : w.Shuns mb (· = w.heap.size) := h0.reno hD fun k hk => by have : k = w.heap.size := hk; exact .inr (by omega)
      exact h2.kept (World.grownBy_alloc w _ none) hD.lt (by simp)
  have hsz1 : B ≤ (w.alloc (.cells (tkC ⟨0, tf, tt, tn, tr, ts⟩) 29)).heap.size := Nat.le_trans hB hb1.size
  unfold tkC at hb1 hf1 hs1 hq1 hba1 hsz1 hp1 hqp ⊢
  simp only at hb1 hf1 hs1 hq1 hba1 hsz1 hp1 hqp ⊢
  have x1 := hq1.cell 1
  have x2 := hq1.cell 2
  have y0 := hf1.at_.1.cell 0
  simp only [List.getElem?_toArray, List.getElem?_cons_zero, List.getElem?_cons_succ] at x1 x2 y0
  have hns := hba.1
  have hcap := hba.2.1
  have hc63 := hba.2.2.1
  obtain ⟨hsb, hbl2⟩ := sb_of_baL hba1
  have hil := intsOf_len s
  have hzs : segL s ⟨0, tf, tt, tn, tr, ts⟩ = ((intsOf s).drop tf).take (tt - tf) := seg_drop s tf tt hti
  have hsub := sb_sub hsb tf (tt - tf) (by omega) (by omega)
  rw [← hzs] at hsub
  have hsl := slice_row bb off bl bc tf tt (by omega) (by omega) (by omega)
  generalize segL s ⟨0, tf, tt, tn, tr, ts⟩ = zs at *
  have HF1 := hid hf1
  have HS1 := hid hs1
  have HP1 := hid hp1
  have HQP := hid hqp
  have HSB := hid hsub
  have HST := hid hst
  have HZL := hid hsg
  have HX1 := hid x1
  have HBND := hid (show tf + (tt - tf) ≤ 100000 by omega)
  have hLp : tt - tf ≤ 100000 := by omega
  clear hf hba hb1 hf1 hs1 hp1 hq1 hba1 hst hp hqp hsb hsub hzs hil hbl2 hns
  go_enter Tryz.func44, Tryz.ntmps44
  go_upto_region 1 with fail
  generalize w.alloc (.cells #[.int .i64 0, .int .i64 tf, .int .i64 tt, .string tn, .int .i32 tr, .bool ts] 29) = w1 at *
  generalize w.heap.size = q at *
  go_region
  clear y0 x1 x2 hsl
  generalize hcc : bc - tf = cc at *
  have HW1 := hid (show Below w1.heap.size w1 w1.drew from ⟨rfl, rfl, rfl, Nat.le_refl _, fun _ _ => rfl⟩)
  obtain ⟨hf2, hs2⟩ := HF1.out.below HW1.out
  have HF2 := hid hf2
  have HS2 := hid hs2
  go_wp2_with fail
  go_loopg [5] (tt - tf) (fun kx s5 wr => ∃ (i : Nat) (o : List Fg) (ov' : Value), s5 = .int .i64 i ∧ i ≤ (tt - tf) ∧ (tt - tf) - i ≤ kx ∧ o.length ≤ tf + i ∧ Hid (FnW wr g B mb n (.slice (some ⟨bb, off, none⟩) bl bc) ov' ⟨x.op, o⟩) ∧ Hid (FnStep w1 wr g mb ov ov') ∧ Hid (x.out ++ txA zs tf = o ++ txA (zs.drop i) ((tf : Int) + i)))
  case atStart => exact ⟨0, x.out, ov, rfl, Nat.zero_le _, by omega, by omega, HF2.out, HS2.out, (by show _ = _; rw [List.drop_zero]; simp)⟩
  case round =>
    obtain ⟨i, o, ov', rfl, hi, hg, hol, HF, HS, HO⟩ := hrel
    obtain ⟨hbbw, hpb⟩ := HS.out.block bb HP1.out
    obtain ⟨hqw, hpq⟩ := HS.out.block q HQP.out
    have hsbr := sb_keep HSB.out hbbw HS.out.size
    have x1r := (World.cell?_of_block (a := ⟨q, 1, none⟩) hqw).trans HX1.out
    have hszr : B ≤ wr.heap.size := Nat.le_trans hsz1 HS.out.size
    by_cases hlt : i < (tt - tf)
    · have hlt' : (i : Int) < ((tt - tf) : Int) := by omega
      have hil : i < zs.length := by omega
      have hra : S1.readAt zs (i : Int) = S1.readF (zs.drop i) := by unfold S1.readAt; rw [if_pos ⟨by omega, by omega⟩, Int.toNat_natCast]
      have hnx := S1.next_any (some ⟨bb, off + tf, none⟩) cc zs (i : Int) wr hsbr
      rw [hra, hsg] at hnx
      obtain ⟨c, tl, e⟩ := List.exists_cons_of_ne_nil (show zs.drop i ≠ [] by simp; omega)
      have hz := S1.readF_size c tl
      rw [← e] at hz
      have hdl : (zs.drop i).length = (tt - tf) - i := by rw [List.length_drop]; omega
      have htl : tl.length + 1 = (tt - tf) - i := by rw [← hdl, e]; simp
      have hstep := txA_step hil (tf : Int)
      have hpl := pcFg_len (zs.drop i) ((tf : Int) + i)
      have hpc : pcFg (zs.drop i) ((tf : Int) + i) = if S1.validF ((zs.drop i).take (S1.readF (zs.drop i)).2.1) = false then [⟨1, (tf : Int) + i⟩] else if c = 60 ∨ c = 38 then [⟨2, (tf : Int) + i⟩] else [] := by
        unfold pcFg
        rw [e]
        rfl
      obtain ⟨k, hkk⟩ : ∃ k, k = (S1.readF (zs.drop i)).2.1 := ⟨_, rfl⟩
      obtain ⟨rr, hrr⟩ : ∃ rr, rr = (S1.readF (zs.drop i)).1 := ⟨_, rfl⟩
      rw [← hkk, ← hrr] at hnx
      rw [← hkk] at hz hstep hpc
      have hsv := sb_sub hsbr i k (by omega) (by omega)
      have hvl : ((zs.drop i).take k).length = k := by rw [List.length_take, hdl]; omega
      have hcell := sb_sub hsbr i 1 (by decide) (by omega)
      have hbyte : ∀ W : World, W.heap[bb]? = wr.heap[bb]? → W.cell? ⟨bb, off + tf + i, none⟩ = some (.int .u8 c) := fun W hW => by
        rcases hcell.2.2.2 with h0 | ⟨b', o', e1, _, hr⟩
        · have := congrArg List.length h0
          rw [List.length_take, hdl] at this
          simp at this
          omega
        · injection e1 with e1
          injection e1 with e1 e2 _
          subst e1 e2
          have := hr 0 (by rw [List.length_take, hdl]; omega)
          rw [Nat.add_zero, e] at this
          rw [World.cell?_of_block (a := ⟨bb, off + tf + i, none⟩) hW, this]
          rfl
      have HVA := hid (fun (W : World) (hW : W.heap[bb]? = wr.heap[bb]?) (hs : wr.heap.size ≤ W.heap.size) => (show Calls Tryz.prog 75 #[.slice (some ⟨bb, off + tf + i, none⟩) k (cc - i)] W fun e W' => e = .returned (.bool (S1.validF ((zs.drop i).take k))) ∧ Below W.heap.size W W' by have := S1.valid_any (some ⟨bb, off + tf + i, none⟩) (cc - i) ((zs.drop i).take k) W (sb_keep hsv hW hs); rwa [hvl] at this))
      generalize S1.validF ((zs.drop i).take k) = vb at *
      have HBY := hid hbyte
      have HNX := hid hnx
      obtain ⟨z, hzz⟩ : ∃ z, z = i + k := ⟨_, rfl⟩
      rw [← hzz] at hstep
      have hzL : z ≤ (tt - tf) := by omega
      have hcapz : (tt - tf) ≤ cc := by have := hsbr.1; omega
      have hsl2 := slice_row bb (off + tf) (tt - tf) cc i z (by omega) (by omega) (by omega)
      rw [show z - i = k by omega] at hsl2
      have hzi : (i : Int) + (k : Int) = (z : Int) := by omega
      have hwz : IntKind.i64.wrap (z : Int) = (z : Int) := IntWalk.i64_in _ (by omega)
      obtain ⟨fz, hfz⟩ : ∃ fz : Int, fz = (tf : Int) + (i : Int) := ⟨_, rfl⟩
      have hwf : IntKind.i64.wrap fz = fz := IntWalk.i64_in _ (by have := HBND.out; omega)
      rw [← hfz] at hpc hstep hpl HO
      have hfz2 := hfz.symm
      have HSTEP := hid hstep
      have HPC := hid hpc
      have HPB := hid hpb
      have hkb : bb < wr.heap.size := hpb.lt
      have hqb : q < wr.heap.size := hpq.lt
      have hlz : (tt - tf) - z < (tt - tf) - i := by omega
      have hol2 : ∀ l : List Fg, l.length ≤ 1 → (o ++ l).length ≤ tf + z := fun l hl => by rw [List.length_append]; omega
      have HOL2 := hid hol2
      have HPL := hid hpl
      clear hsbr hra hnx e hz hdl htl hstep hpl hpc hkk hrr hsv hvl hcell hbyte hpb hbbw hqw hpq hil hcapz hfz hol2 hzz
      go_wp2_with fail
      refine HNX.out.mono ?_
      rintro e w2 ⟨rfl, qn, hw2⟩
      have hb2 : Below wr.heap.size wr w2 := by rw [hw2]; exact below_drewN _ _ _
      obtain ⟨hfa, hsa⟩ := HF.out.below hb2
      have HFA := hid hfa
      have HSA := hid (HS.out.trans hsa)
      have hbba : w2.heap[bb]? = wr.heap[bb]? := hb2.block bb hkb
      have x1a := (hb2.cell (p := ⟨q, 1, none⟩) hqb).trans x1r
      have hsza := Nat.le_trans hszr hb2.size
      have HB2 := hid hb2
      have HVB := hid (HVA.out w2 hbba hb2.size)
      clear hfa hsa hw2 hb2 x1r hbba HVA
      go_wp2_with fail
      refine HVB.out.mono ?_
      rintro e w3 ⟨rfl, hb3⟩
      obtain ⟨hfb, hsb⟩ := HFA.out.below hb3
      have HFB := hid hfb
      have HSB3 := hid (HSA.out.trans hsb)
      have hb23 := HB2.out.trans (hb3.mono HB2.out.size)
      have hby := HBY.out w3 (hb23.block bb hkb)
      have x1b := (hb3.cell (p := ⟨q, 1, none⟩) (Nat.lt_of_lt_of_le hqb HB2.out.size)).trans x1a
      have hszb := Nat.le_trans hsza hb3.size
      have HBY3 := hid hby
      clear hfb hsb hb3 hb23 hby x1a
      cases vb
      · have HP2 := hid (HPC.out.trans (if_pos rfl))
        have HFO := hid (found_any g B (.slice (some ⟨bb, off, none⟩) bl bc) (.map (some mb)) ov' o 1 fz w3 HFB.out.at_ HFB.out.gB hszb (by have := HBND.out; omega))
        go_wp2_with fail
        refine HFO.out.mono ?_
        rintro e w4 ⟨rfl, hto⟩
        obtain ⟨ov4, hf4, hs4⟩ := HFB.out.found hszb hto
        have HF4 := hid hf4
        have HS4 := hid (HSB3.out.trans hs4)
        have HO4 := hid (HO.out.trans (show o ++ txA (zs.drop i) fz = (o ++ [⟨1, fz⟩]) ++ txA (zs.drop z) ((tf : Int) + z) by rw [HSTEP.out, HP2.out, List.append_assoc]))
        have hol4 := HOL2.out [⟨1, fz⟩] (by simp)
        clear hto hf4 hs4
        go_wp2_with fail
        go_roundg ((tt - tf) - z)
        case measure => exact Nat.lt_of_lt_of_le hlz hg
        case rel => exact ⟨z, _, ov4, rfl, hzL, Nat.le_refl _, hol4, HF4.out, HS4.out, HO4.out⟩
      · have hP3 := HPC.out.trans (if_neg (by decide))
        have hby := HBY3.out
        by_cases h60 : c = 60
        · subst h60
          have HP2 := hid (hP3.trans (if_pos (.inl rfl)))
          have HFO := hid (found_any g B (.slice (some ⟨bb, off, none⟩) bl bc) (.map (some mb)) ov' o 2 fz w3 HFB.out.at_ HFB.out.gB hszb (by have := HBND.out; omega))
          clear hP3
          go_wp2_with fail
          refine HFO.out.mono ?_
          rintro e w4 ⟨rfl, hto⟩
          obtain ⟨ov4, hf4, hs4⟩ := HFB.out.found hszb hto
          have HF4 := hid hf4
          have HS4 := hid (HSB3.out.trans hs4)
          have HO4 := hid (HO.out.trans (show o ++ txA (zs.drop i) fz = (o ++ [⟨2, fz⟩]) ++ txA (zs.drop z) ((tf : Int) + z) by rw [HSTEP.out, HP2.out, List.append_assoc]))
          have hol4 := HOL2.out [⟨2, fz⟩] (by simp)
          clear hto hf4 hs4
          go_wp2_with fail
          go_roundg ((tt - tf) - z)
          case measure => exact Nat.lt_of_lt_of_le hlz hg
          case rel => exact ⟨z, _, ov4, rfl, hzL, Nat.le_refl _, hol4, HF4.out, HS4.out, HO4.out⟩
        · have hc60 : (c == 60) = false := by simpa using h60
          by_cases h38 : c = 38
          · subst h38
            have HP2 := hid (hP3.trans (if_pos (.inr rfl)))
            have HFO := hid (found_any g B (.slice (some ⟨bb, off, none⟩) bl bc) (.map (some mb)) ov' o 2 fz w3 HFB.out.at_ HFB.out.gB hszb (by have := HBND.out; omega))
            clear hP3 h60
            go_wp2_with fail
            refine HFO.out.mono ?_
            rintro e w4 ⟨rfl, hto⟩
            obtain ⟨ov4, hf4, hs4⟩ := HFB.out.found hszb hto
            have HF4 := hid hf4
            have HS4 := hid (HSB3.out.trans hs4)
            have HO4 := hid (HO.out.trans (show o ++ txA (zs.drop i) fz = (o ++ [⟨2, fz⟩]) ++ txA (zs.drop z) ((tf : Int) + z) by rw [HSTEP.out, HP2.out, List.append_assoc]))
            have hol4 := HOL2.out [⟨2, fz⟩] (by simp)
            clear hto hf4 hs4
            go_wp2_with fail
            go_roundg ((tt - tf) - z)
            case measure => exact Nat.lt_of_lt_of_le hlz hg
            case rel => exact ⟨z, _, ov4, rfl, hzL, Nat.le_refl _, hol4, HF4.out, HS4.out, HO4.out⟩
          · have hc38 : (c == 38) = false := by simpa using h38
            have HP2 := hid (hP3.trans (if_neg (fun h => h.elim h60 h38)))
            have HO4 := hid (HO.out.trans (show o ++ txA (zs.drop i) fz = o ++ txA (zs.drop z) ((tf : Int) + z) by rw [HSTEP.out, HP2.out, List.nil_append]))
            have hol4 : o.length ≤ tf + z := by have := HOL2.out [] (by simp); rwa [List.append_nil] at this
            clear hP3 h60 h38
            go_wp2_with fail
            go_roundg ((tt - tf) - z)
            case measure => exact Nat.lt_of_lt_of_le hlz hg
            case rel => exact ⟨z, o, ov', rfl, hzL, Nat.le_refl _, hol4, HFB.out, HSB3.out, HO4.out⟩
    · have hdn : zs.drop i = [] := List.drop_eq_nil_of_le (by have := HZL.out; omega)
      have hO := HO.out
      have hlt' : ¬ ((i : Int) < ((tt - tf : Nat) : Int)) := by omega
      rw [hdn, txA_nil, List.append_nil] at hO
      have HO2 := hid hO
      clear hO hdn hbbw hqw hpb hpq hsbr
      go_wp2_with fail
      go_end0
      refine ⟨rfl, ov', ?_, HS1.out.trans HS.out⟩
      rw [HST.out, HO2.out]
      exact HF.out
end Go.Proofs.YtpnbkecchfhimaaGreatDoor

/- out of LiU0 -/
namespace Go.Proofs.YtpnbkecchfhimaaGreatDoor
open Go.RowKit Go.Shelf Go.Maps Go.ChangeShapes
open Go.Lib (hid)
set_option linter.unusedVariables false
set_option linter.unusedSimpArgs false
set_option maxRecDepth 100000

abbrev GInts (W : World) (mb : Nat) (v : Value) (zs : List Int) : Prop := W.ownsInts (mb + 1) 3 .i64 v zs
theorem opens_law : Keyed Tryz.prog 9 := string_keyed Tryz.underlying9
theorem opens_zero (w : World) : (zeroValue 52).run Tryz.prog w = .ok (.slice none 0 0) w := by kernel_rfl
/-- .. with what the blocks of the groups are not. -/
theorem grp_look {w : World} {mb n : Nat} {D : DataW Unit} (h : Grp w mb n D) (hn : n < maxLen) (nm : ByteArray) (hs : nm.size ≤ maxLen) :
    ∃ v zs, (Instr.lookup 85 (.map (some mb)) (.string nm) false).run Tryz.prog w = .ok v w ∧ D.atKey (strL nm) .nil = rowDatum .i64 v zs ∧ GInts w mb v zs ∧ zs.length ≤ n ∧ (∀ No : Nat → Prop, w.Shuns mb No → ∀ j, v.ownBlock = some j → ¬ No j) ∧
      ∀ (w1 : World) (v' : Value) (zs' : List Int), w.grownBy w1 v.ownBlock → GInts w1 mb v' zs' → zs'.length ≤ n + 1 → (v'.ownBlock = v.ownBlock ∨ ∃ j, v'.ownBlock = some j ∧ w.heap.size ≤ j) →
        ∃ w2, (Instr.mapUpdate 85 (.map (some mb)) (.string nm) v').run Tryz.prog w1 = .ok () w2 ∧ Grp w2 mb (n + 1) (D.put (strL nm) (rowDatum .i64 v' zs')) ∧ w1.grownBy w2 (some mb) ∧ ∀ No : Nat → Prop, w.Shuns mb No → (∀ j, v'.ownBlock = some j → ¬ No j) → w2.Shuns mb No := by
  have hkey : keyOf Tryz.prog 9 (.string nm) = some (strL nm) := WideMaps.keyOf_string_mk Tryz.underlying9 hs
  obtain ⟨v, zs, hrun, hat, hoi, hzl, hback⟩ := h.at opens_law Tryz.underlying85 (opens_zero w) hn hkey
  refine ⟨v, zs, hrun, hat, hoi, hzl, ?_, fun w1 v' zs' hg hoi' hl' hloc => ?_⟩
  · obtain ⟨es, clock, hb, F, _⟩ := h
    rcases Maps.fit_look false opens_law Tryz.underlying85 (opens_zero w) hb F hkey with ⟨hrun', _, _⟩ | ⟨e0, y, hm0, _, hrun', _, _, _⟩
    · rw [hrun] at hrun'
      obtain rfl : v = .slice none 0 0 := by simpa using hrun'
      intro _ _ j hj
      cases hj
    · rw [hrun] at hrun'
      obtain rfl : v = e0.val := by simpa using hrun'
      exact fun No hs j hj => hs es clock hb e0 hm0 j hj
  · obtain ⟨w2, hru, r1, r2⟩ := hback w1 v' zs' hg hoi' hl' hloc
    refine ⟨w2, hru, r1, r2, fun No hsh hno => ?_⟩
    obtain ⟨es, clock, hb, F, hss, _, hbb, _⟩ := h
    have hblt : mb < w.heap.size := (Array.getElem?_eq_some_iff.1 hb).1
    have hb1 : w1.heap[mb]? = some (.map es clock) := (hg.block mb hblt (fun e1 => by have := (hoi.1.lt mb e1.symm).1; omega)).trans hb
    obtain ⟨es', clock', hb2, hwho⟩ := stored_who opens_law Tryz.underlying85 hb1 F (Nat.lt_of_le_of_lt hss hn) hkey hru
    intro es2 clock2 hb2' y hy j hyj
    obtain ⟨rfl, rfl⟩ : es' = es2 ∧ clock' = clock2 := by rw [hb2] at hb2'; simpa using hb2'
    rcases hwho y hy with ⟨hy0, _⟩ | ⟨_, hval⟩
    · exact hsh es clock hb y hy0 j hyj
    · exact hno j (hval ▸ hyj)
theorem ints_blk {w : World} {mb : Nat} {v : Value} {zs : List Int} (h : GInts w mb v zs) {j : Nat} (hj : v.ownBlock = some j) : ∃ cur, w.heap[j]? = some (.cells cur 3 (0, 0)) := by
  rcases h.1.2 with ⟨e0, _⟩ | ⟨gq, cap, cur, e0, _, hh, _⟩
  · rw [e0] at hj; cases hj
  · rw [e0] at hj
    injection hj with hj
    have hj : gq = j := hj
    subst hj
    exact ⟨cur, hh⟩
/-- The finder looks into its map; and stores. -/
theorem FnW.look {w : World} {g B mb n : Nat} {bv ov : Value} {x : Fs} (h : FnW w g B mb n bv ov x) (hn : n ≤ 1000000) (nm : ByteArray) (hs : nm.size ≤ maxLen) :
    ∃ v, (Instr.lookup 85 (.map (some mb)) (.string nm) false).run Tryz.prog w = .ok v w ∧ GInts w mb v (x.op nm) ∧ (x.op nm).length ≤ n ∧ (∀ k, k = g ∨ Prot w g mb ov k → v.ownBlock ≠ some k) ∧
      ∀ (w1 : World) (v' : Value) (zs' : List Int), w.grownBy w1 v.ownBlock → GInts w1 mb v' zs' → zs'.length ≤ n + 1 → (v'.ownBlock = v.ownBlock ∨ ∃ j, v'.ownBlock = some j ∧ w.heap.size ≤ j) →
        ∃ w2, (Instr.mapUpdate 85 (.map (some mb)) (.string nm) v').run Tryz.prog w1 = .ok () w2 ∧ FnRet w w2 g B mb n bv ov ⟨updO x.op nm zs', x.out⟩ := by
  obtain ⟨D, hD, hop⟩ := h.grp
  have hlt := hD.lt
  obtain ⟨v, zs, hrun, hat, hoi, hzl, hsu, hback⟩ := grp_look hD (by unfold maxLen; omega) nm hs
  have hz : x.op nm = zs := by rw [← hop.2 nm, hat]; exact items_row hoi
  rw [hz]
  have hgv : v.ownBlock ≠ some g := fun e => by
    obtain ⟨cur, hc⟩ := ints_blk hoi e
    have := h.at_.1
    unfold Blk at this
    rw [this] at hc
    injection hc with hc
    injection hc with _ ht _
    exact absurd ht (by decide)
  refine ⟨v, hrun, hoi, hzl, fun k hk => hk.elim (fun e => e ▸ hgv) fun hk e => hsu _ hk.sh k e rfl, fun w1 v' zs' hg hoi' hl' hloc => ?_⟩
  obtain ⟨w2, hru, hD2, hg2, hsh2⟩ := hback w1 v' zs' hg hoi' hl' hloc
  have hov : ∀ j, ov.ownBlock = some j → v.ownBlock ≠ some j := fun j hj e => hsu _ (h.shun j hj) j e rfl
  have hovs : ∀ j, ov.ownBlock = some j → w2.Shuns mb (· = j) := fun j hj => hsh2 _ (h.shun j hj) fun i hi e => by
    have e : i = j := e
    subst e
    rcases hloc with e1 | ⟨i', e1, e2⟩
    · exact hov i hj (e1.symm.trans hi)
    · rw [hi] at e1
      injection e1 with e1
      have := (h.at_.2.lt i hj).2
      omega
  have hgb := h.gB
  have hmB := h.mB
  have hgm := h.gm
  have hmo : ∀ j, ov.ownBlock = some j → j ≠ mb := fun j hj => by have := (h.at_.2.lt j hj).1; omega
  refine ⟨w2, hru, ov, n + 1, ⟨⟨?_, ?_⟩, ⟨_, hD2, hop.put nm hoi'⟩, hovs, hgb, hmB, hgm⟩, Nat.le_refl _, ⟨hg2.os.trans hg.os, hg2.tape.trans hg.tape, hg2.output.trans hg.output, Nat.le_trans hg.size hg2.size, fun k hk => ?_⟩⟩
  · exact (h.at_.1.grown hg (fun e => hgv e.symm)).grown hg2 (fun e => hgm (by injection e))
  · have a1 : w1.ownsRow _ _ _ _ _ _ := h.at_.2.kept hg (by
      cases hq : ov.ownBlock with
      | none => exact .inl rfl
      | some j => exact .inr fun e => hov j hq e.symm)
    exact a1.kept hg2 (by
      cases hq : ov.ownBlock with
      | none => exact .inl rfl
      | some j => exact .inr fun e => hmo j hq (by injection e))
  · have hvk : v.ownBlock ≠ some k := fun e => hsu _ hk.sh k e rfl
    have hk1 := hk.lt
    refine ⟨(hg2.block k (Nat.lt_of_lt_of_le hk1 hg.size) (fun e => hk.nm (by injection e))).trans (hg.block k hk1 (fun e => hvk e.symm)), ⟨Nat.lt_of_lt_of_le hk1 (Nat.le_trans hg.size hg2.size), hk.ng, hk.nm, hk.no, hsh2 _ hk.sh fun i hi e => ?_⟩⟩
    have e : i = k := e
    subst e
    rcases hloc with e1 | ⟨i', e1, e2⟩
    · exact hvk (e1.symm.trans hi)
    · rw [hi] at e1
      injection e1 with e1
      omega
/-- An append of which the run is known, at a step. -/
theorem wp_append_run {P : Program} {o : Oper} {a : Act} {w w' : World} {K : Act → World → Prop} {Q : Exit → Act → World → Prop} {sl x : Operand} {t ty : TypeId} {v u v' : Value} (ho : o.op = .call { callee := .builtin .append, args := #[sl, x], argTypes := #[t, t] }) (hty : o.type = ty) (hs : a.eval sl = v) (hx : a.eval x = u)
    (hr : (Builtin.append_ #[t, t] ty #[v, u]).run P w = .ok v' w') (h : K (a.put o.dst v') w') : Oper.wp P o a w K Q := by
  subst hty
  unfold Oper.wp execOp
  simp only [ho, resolve, invoke, builtin, Sem.run_bind, Sem.run_pure, Result.andThen_ok, List.map_toArray, List.map_cons, List.map_nil, hs, hx, hr]
  exact h
/-- .. and a store into a map. -/
theorem wp_mapUpdate_run {P : Program} {o : Oper} {a : Act} {w w' : World} {K : Act → World → Prop} {Q : Exit → Act → World → Prop} {m x v : Operand} {t : TypeId} {mv kv vv : Value} (ho : o.op = Op.mapUpdate t m x v) (hm : a.eval m = mv) (hx : a.eval x = kv) (hv : a.eval v = vv)
    (hr : (Instr.mapUpdate t mv kv vv).run P w = .ok () w') (h : K (a.put o.dst undef) w') : Oper.wp P o a w K Q := by
  unfold Oper.wp
  simp [execOp, ho, hm, hx, hv, hr, Result.andThen]
  exact h
/-- A group's last number is taken off. -/
theorem ints_pop {w : World} {mb : Nat} {v : Value} {zs : List Int} (h : GInts w mb v zs) (hz : zs ≠ []) :
    ∃ r cap, v = .slice (some ⟨r, 0, none⟩) zs.length cap ∧ zs.length ≤ cap ∧ cap ≤ maxLen ∧ GInts w mb (.slice (some ⟨r, 0, none⟩) (zs.length - 1) cap) zs.dropLast := by
  obtain ⟨⟨h1, h2⟩, h3⟩ := h
  rcases h2 with ⟨_, h0⟩ | ⟨r, cap, cur, e, hb, hh, hc, hm, hs, ht⟩
  · exact absurd (List.length_eq_zero_iff.1 h0) hz
  · refine ⟨r, cap, e, hc, hm, ⟨by simp, .inr ⟨r, cap, cur, by simp, hb, hh, by simp; omega, hm, hs, ?_⟩⟩, fun z hz => h3 z (List.dropLast_subset _ hz)⟩
    have hcl : cur.toList.length = cap * 1 := by rw [Array.length_toList, hs]
    rw [List.length_dropLast, List.map_dropLast, ← ht, List.dropLast_eq_take, List.take_take, List.length_take]
    congr 1
    omega
end Go.Proofs.YtpnbkecchfhimaaGreatDoor
