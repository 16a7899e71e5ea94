/- Chapter 23: an extractor takes a token: the walk. -/
import Derived.Test.YtlfbgaknljdanaaGreatDoorExC
import Derived.BigRegion
import Derived.BigQuiet
namespace Go.Proofs.YtlfbgaknljdanaaGreatDoor
open Go.RowKit
open Go.Lib (hid)
set_option linter.unusedVariables false
set_option linter.unusedSimpArgs false
set_option maxRecDepth 100000

theorem pcs_isEmpty (zs : List Int) : (S1.pcs zs).isEmpty = zs.isEmpty := by
  cases zs with
  | nil => rfl
  | cons c t => rfl
theorem xTake_nil (tk : Array Value) (k f t r : Int) (nm : ByteArray) (sg : Bool) (v : Value) (w : World) (htk : tk = #[.int .i64 k, .int .i64 f, .int .i64 t, .string nm, .int .i32 r, .bool sg]) : Calls Tryz.prog 15 #[.pointer none, .agg tk, v] w fun e w' => e = .returned (.slice none 0 0) ∧ Below w.heap.size w w' := by
  subst htk
  have HB1 := hid ((Below.refl w.heap.size w).alloc (Nat.le_refl _) (.cells #[.int .i64 k, .int .i64 f, .int .i64 t, .string nm, .int .i32 r, .bool sg] 30))
  go_enter Tryz.func15, Tryz.ntmps15
  go_wp2_with fail
  go_ret
  exact ⟨rfl, HB1.out⟩
theorem NB_next2 {B g q : Nat} {k f t : Int} {nm : ByteArray} {r : Int} {sg : Bool} {w1 w2 : World} (h : NB B k f t nm r sg w1) (hg : Kept2 g q w1 w2) (h1 : B ≠ g) (h2 : B ≠ q) : NB B k f t nm r sg w2 := by
  obtain ⟨x0, x1, x2, x3, x4, x5, h7⟩ := h
  have hc : ∀ o, w2.cell? ⟨B, o, none⟩ = w1.cell? ⟨B, o, none⟩ := fun o => hg.cell (p := ⟨B, o, none⟩) h7 h1 h2
  exact ⟨(hc 0).trans x0, (hc 1).trans x1, (hc 2).trans x2, (hc 3).trans x3, (hc 4).trans x4, (hc 5).trans x5, Nat.lt_of_lt_of_le h7 hg.size⟩
theorem xset_blk {w : World} {g q : Nat} {ty2 : TypeId} {fo ch f c : Bool} (h : Blk w g ty2 (exCells q fo ch)) : Blk ((w.setCell ⟨g, 1, none⟩ (.bool f)).setCell ⟨g, 2, none⟩ (.bool c)) g ty2 (exCells q f c) := by
  have := (h.set_ 1 (.bool f)).set_ 2 (.bool c)
  simpa [exCells] using this
theorem xset_blk2 {w : World} {g q : Nat} {ty2 : TypeId} {fo ch f c : Bool} (h : Blk w g ty2 (exCells q fo ch)) : Blk ((w.setCell ⟨g, 2, none⟩ (.bool c)).setCell ⟨g, 1, none⟩ (.bool f)) g ty2 (exCells q f c) := by
  have := (h.set_ 2 (.bool c)).set_ 1 (.bool f)
  simpa [exCells] using this
theorem exTake_tag {x : Xs} {t : Tk} {zs : List Int} (hk : t.kind = 2 ∨ t.kind = 3) : exTake x t zs = (⟨(neTake x.n t.kind t.name t.single).1, x.fo || (neTake x.n t.kind t.name t.single).2.1, x.ch || (neTake x.n t.kind t.name t.single).2.2⟩, []) := by
  unfold exTake
  rw [if_pos hk]
theorem exTake_hid {x : Xs} {t : Tk} {zs : List Int} (hk : ¬ (t.kind = 2 ∨ t.kind = 3)) (hh : 0 < x.n.h) : exTake x t zs = (x, []) := by
  unfold exTake
  rw [if_neg hk, if_pos hh]
theorem exTake_text {x : Xs} {t : Tk} {zs : List Int} (hk : t.kind = 0) (hh : ¬ 0 < x.n.h) : exTake x t zs = (⟨x.n, x.fo && zs.isEmpty, x.ch && zs.isEmpty⟩, pcIts t.fr x.fo x.ch (decide (0 < x.n.b)) (decide (0 < x.n.p)) (S1.pcs zs)) := by
  unfold exTake
  rw [if_neg (by omega), if_neg hh, if_pos hk]
theorem exTake_ref {x : Xs} {t : Tk} {zs : List Int} (hk : t.kind = 1) (hh : ¬ 0 < x.n.h) : exTake x t zs = (⟨x.n, false, false⟩, [⟨t.r, t.fr, t.til - t.fr, x.fo, x.ch, decide (0 < x.n.b), decide (0 < x.n.p)⟩]) := by
  unfold exTake
  rw [if_neg (by omega), if_neg hh, if_neg (by omega), if_pos hk]
theorem exTake_other {x : Xs} {t : Tk} {zs : List Int} (hk : ¬ (t.kind = 2 ∨ t.kind = 3)) (h0 : t.kind ≠ 0) (h1 : t.kind ≠ 1) : exTake x t zs = (x, []) := by
  unfold exTake
  rw [if_neg hk, if_neg h0, if_neg h1]
  split <;> rfl
/-- What a taking leaves. -/
def XT (g q : Nat) (ty ty2 : TypeId) (w w' : World) (e : Ending) (R : Xs × List It) : Prop :=
  ∃ v, e = .returned v ∧ w'.ownsRow w.heap.size 34 7 v R.2.length (itCells R.2) ∧ Blk w' g ty2 (exCells q R.1.fo R.1.ch) ∧ Blk w' q ty R.1.n.cells ∧ Kept2 g q w w'
theorem xt_fin {g q : Nat} {ty ty2 : TypeId} {w w4 : World} {n : Ne} {fo ch : Bool} (hg : Kept2 g q w w4) (hx : Blk w4 g ty2 (exCells q fo ch)) (hk : Blk w4 q ty n.cells) (hgq : g ≠ q) (f c : Bool) :
    XT g q ty ty2 w ((w4.setCell ⟨g, 1, none⟩ (.bool f)).setCell ⟨g, 2, none⟩ (.bool c)).drew (.returned (.slice none 0 0)) (⟨n, f, c⟩, []) :=
  ⟨_, rfl, World.ownsRow_nil _ _ _ _, (xset_blk hx).drew, ((hk.far (p := ⟨g, 1, none⟩) hgq.symm (.bool f)).far (p := ⟨g, 2, none⟩) hgq.symm (.bool c)).drew,
    hg.trans ((Kept2.of_g ((grown_set w4 g 1 (.bool f)).trans (grown_set _ g 2 (.bool c)))).trans ⟨rfl, rfl, rfl, Nat.le_refl _, fun _ _ _ _ => rfl⟩)⟩
set_option maxHeartbeats 8000000 in
theorem xTake_tag (g q : Nat) (ty ty2 : TypeId) (n : Ne) (fo ch : Bool) (k : Int) (hk23 : k = 2 ∨ k = 3) (f t r : Int) (nm : ByteArray) (sg : Bool) (v : Value) (w : World) (hk : Blk w q ty n.cells) (hx : Blk w g ty2 (exCells q fo ch)) (hgq : g ≠ q) (hn : n.ok) (hnm : nm.size ≤ maxLen) (ht : TabSp w) :
    Calls Tryz.prog 15 #[.pointer (some ⟨g, 0, none⟩), .agg #[.int .i64 k, .int .i64 f, .int .i64 t, .string nm, .int .i32 r, .bool sg], v] w fun e w' => XT g q ty ty2 w w' e (⟨(neTake n k nm sg).1, fo || (neTake n k nm sg).2.1, ch || (neTake n k nm sg).2.2⟩, []) := by
  have hbx := (Below.refl w.heap.size w).alloc (Nat.le_refl _) (.cells #[.int .i64 k, .int .i64 f, .int .i64 t, .string nm, .int .i32 r, .bool sg] 30)
  have hk1 := hk.alloc (.cells #[.int .i64 k, .int .i64 f, .int .i64 t, .string nm, .int .i32 r, .bool sg] 30)
  have hx1 := hx.alloc (.cells #[.int .i64 k, .int .i64 f, .int .i64 t, .string nm, .int .i32 r, .bool sg] 30)
  have hq := Blk.new w 30 #[.int .i64 k, .int .i64 f, .int .i64 t, .string nm, .int .i32 r, .bool sg]
  have x0 := hq.cell 0
  have x1 := hq.cell 1
  have x2 := hq.cell 2
  have x3 := hq.cell 3
  have x4 := hq.cell 4
  have x5 := hq.cell 5
  have y0 := hx1.cell 0
  simp only [exCells, List.getElem?_toArray, List.getElem?_cons_zero, List.getElem?_cons_succ] at x0 x1 x2 x3 x4 x5 y0
  have HT := hid (fun W (h1 : Blk W q ty n.cells) (h2 : TabSp W) => nTake_any q ty n k f t r nm sg W h1 hn hnm h2)
  have HK1 := hid hk1
  have HX1 := hid hx1
  have HT1 := hid (ht.below hbx (Nat.le_refl _))
  have HG1 := hid (Kept2.of_below (g := g) (q := q) hbx (Nat.le_refl _))
  have HNE := hid (And.intro (show w.heap.size ≠ g from Nat.ne_of_gt hx.lt) (show w.heap.size ≠ q from Nat.ne_of_gt hk.lt))
  have HGQ := hid hgq
  have hlt := hq.lt
  have kb3 : (k == 3) = true ∨ (k == 2) = true := by rcases hk23 with rfl | rfl <;> simp
  obtain ⟨R, hR⟩ : ∃ R, R = neTake n k nm sg := ⟨_, rfl⟩
  rw [← hR]
  rw [← hR] at HT
  obtain ⟨n', f', c'⟩ := R
  simp only at HT ⊢
  clear hk hk1 hx hx1 hbx hq ht hgq hR
  rcases hk23 with rfl | rfl
  · clear kb3
    go_enter Tryz.func15, Tryz.ntmps15
    go_upto_region 4 with fail
    generalize w.alloc (.cells #[.int .i64 2, .int .i64 f, .int .i64 t, .string nm, .int .i32 r, .bool sg] 30) = w1 at *
    refine wp_region_held_drew (S := fun w' : World => w'.cell? ⟨g, 0, none⟩ = some (.pointer (some ⟨q, 0, none⟩)) ∧ w'.cell? ⟨w.heap.size, 0, none⟩ = some (.int .i64 2) ∧ w'.cell? ⟨w.heap.size, 1, none⟩ = some (.int .i64 f) ∧ w'.cell? ⟨w.heap.size, 2, none⟩ = some (.int .i64 t) ∧ w'.cell? ⟨w.heap.size, 3, none⟩ = some (.string nm) ∧ w'.cell? ⟨w.heap.size, 4, none⟩ = some (.int .i32 r) ∧ w'.cell? ⟨w.heap.size, 5, none⟩ = some (.bool sg) ∧ w.heap.size < w'.heap.size) (by kernel_rfl) ⟨y0, x0, x1, x2, x3, x4, x5, hlt⟩ (fun hHeld => ?_)
    clear x0 x1 x2 x3 x4 x5 y0
    refine wpAnyH_take (i := 0) (v := ?hv1) rfl (by kernel_rfl) (by kernel_rfl) (by kernel_rfl) (fun _ _ _ h => h) (Or.inl ⟨by rfl, ?hy1⟩) (by assumption) ?hr1
    case hy1 => (intro w hSw; (try dsimp only at hSw); go_simp; try with_reducible rfl)
    (try simp only [Act.put, List.getElem_toArray, List.getElem_cons_zero, List.setIfInBounds_toArray, List.set_cons_zero, List.set_cons_succ])
    refine wpAnyH_take (i := 1) (v := ?hv2) rfl (by kernel_rfl) (by kernel_rfl) (by kernel_rfl) (fun _ _ _ h => h) (Or.inl ⟨by rfl, ?hy2⟩) (by assumption) ?hr2
    case hy2 => (intro w hSw; (try dsimp only at hSw); go_simp; try with_reducible rfl)
    (try simp only [Act.put, List.getElem_toArray, List.getElem_cons_zero, List.getElem_cons_succ, List.setIfInBounds_toArray, List.set_cons_zero, List.set_cons_succ])
    refine wpAnyH_take (i := 2) (v := ?hv3) rfl (by kernel_rfl) (by kernel_rfl) (by kernel_rfl) (fun _ _ _ h => h) (Or.inl ⟨by rfl, ?hy3⟩) (by assumption) ?hr3
    case hy3 => (intro w hSw; (try dsimp only at hSw); go_simp; try with_reducible rfl)
    (try simp only [Act.put, List.getElem_toArray, List.getElem_cons_zero, List.getElem_cons_succ, List.setIfInBounds_toArray, List.set_cons_zero, List.set_cons_succ])
    refine wpAnyH_take (i := 3) (v := ?hv4) rfl (by kernel_rfl) (by kernel_rfl) (by kernel_rfl) (fun _ _ _ h => h) (Or.inl ⟨by rfl, ?hy4⟩) (by assumption) ?hr4
    case hy4 => (intro w hSw; (try dsimp only at hSw); go_simp; try with_reducible rfl)
    (try simp only [Act.put, List.getElem_toArray, List.getElem_cons_zero, List.getElem_cons_succ, List.setIfInBounds_toArray, List.set_cons_zero, List.set_cons_succ])
    refine wpAnyH_take (i := 4) (v := ?hv5) rfl (by kernel_rfl) (by kernel_rfl) (by kernel_rfl) (fun _ _ _ h => h) (Or.inl ⟨by rfl, ?hy5⟩) (by assumption) ?hr5
    case hy5 => (intro w hSw; (try dsimp only at hSw); go_simp; try with_reducible rfl)
    (try simp only [Act.put, List.getElem_toArray, List.getElem_cons_zero, List.getElem_cons_succ, List.setIfInBounds_toArray, List.set_cons_zero, List.set_cons_succ])
    refine wpAnyH_ready (rs := [5]) (by kernel_rfl) (by simp) ?_
    refine AllReadyH.cons rfl (fun K hK => ?_) AllReadyH.nil
    go_simp
    go_at_call 37
    refine (HT.out _ HK1.out.drew HT1.out).mono ?_
    rintro e w4 ⟨rfl, hk4, hg4⟩
    have HK4 := hid hk4
    have HX4 := hid (HX1.out.drew.grown hg4 (by have := HGQ.out; simpa using this))
    have HG4 := hid (HG1.out.trans ((⟨rfl, rfl, rfl, Nat.le_refl _, fun _ _ _ _ => rfl⟩ : Kept2 g q w1 w1.drew).trans (Kept2.of_q hg4)))
    have hS4 : w4.cell? ⟨g, 0, none⟩ = some (.pointer (some ⟨q, 0, none⟩)) ∧ w4.cell? ⟨w.heap.size, 0, none⟩ = some (.int .i64 2) ∧ w4.cell? ⟨w.heap.size, 1, none⟩ = some (.int .i64 f) ∧ w4.cell? ⟨w.heap.size, 2, none⟩ = some (.int .i64 t) ∧ w4.cell? ⟨w.heap.size, 3, none⟩ = some (.string nm) ∧ w4.cell? ⟨w.heap.size, 4, none⟩ = some (.int .i32 r) ∧ w4.cell? ⟨w.heap.size, 5, none⟩ = some (.bool sg) ∧ w.heap.size < w4.heap.size := ⟨HX4.out.cell 0, NB_next hHeld.2 HNE.out.2.symm hg4⟩
    have HS4 := hid hS4
    clear hk4 hg4 hS4
    go_wp2_with fail
    refine hK.out _ _ HS4.out (fun hHeld2 => ?_)
    clear hK K hHeld hHeld2
    refine wpAnyH_take (i := 6) (v := ?hv6) rfl (by kernel_rfl) (by kernel_rfl) (by kernel_rfl) (fun _ _ _ h => h) (Or.inl ⟨by rfl, ?hy6⟩) (by assumption) ?hr6
    case hy6 => (intro w hSw; (try dsimp only at hSw); go_simp; try with_reducible rfl)
    (try simp only [Act.put, List.getElem_toArray, List.getElem_cons_zero, List.getElem_cons_succ, List.setIfInBounds_toArray, List.set_cons_zero, List.set_cons_succ])
    refine wpAnyH_take (i := 7) (v := ?hv7) rfl (by kernel_rfl) (by kernel_rfl) (by kernel_rfl) (fun _ _ _ h => h) (Or.inl ⟨by rfl, ?hy7⟩) (by assumption) ?hr7
    case hy7 => (intro w hSw; (try dsimp only at hSw); go_simp; try with_reducible rfl)
    (try simp only [Act.put, List.getElem_toArray, List.getElem_cons_zero, List.getElem_cons_succ, List.setIfInBounds_toArray, List.set_cons_zero, List.set_cons_succ])
    refine wpAnyH_take (i := 8) (v := ?hv8) rfl (by kernel_rfl) (by kernel_rfl) (by kernel_rfl) (fun _ _ _ h => h) (Or.inl ⟨by rfl, ?hy8⟩) (by assumption) ?hr8
    case hy8 => (intro w hSw; (try dsimp only at hSw); go_simp; try with_reducible rfl)
    (try simp only [Act.put, List.getElem_toArray, List.getElem_cons_zero, List.getElem_cons_succ, List.setIfInBounds_toArray, List.set_cons_zero, List.set_cons_succ])
    refine wpAnyH_take (i := 9) (v := ?hv9) rfl (by kernel_rfl) (by kernel_rfl) (by kernel_rfl) (fun _ _ _ h => h) (Or.inl ⟨by rfl, ?hy9⟩) (by assumption) ?hr9
    case hy9 => (intro w hSw; (try dsimp only at hSw); go_simp; try with_reducible rfl)
    (try simp only [Act.put, List.getElem_toArray, List.getElem_cons_zero, List.getElem_cons_succ, List.setIfInBounds_toArray, List.set_cons_zero, List.set_cons_succ])
    refine wpAnyH_take (i := 10) (v := ?hv10) rfl (by kernel_rfl) (by kernel_rfl) (by kernel_rfl) (fun _ _ _ h => h) (Or.inl ⟨by rfl, ?hy10⟩) (by assumption) ?hr10
    case hy10 => (intro w hSw; (try dsimp only at hSw); go_simp; try with_reducible rfl)
    (try simp only [Act.put, List.getElem_toArray, List.getElem_cons_zero, List.getElem_cons_succ, List.setIfInBounds_toArray, List.set_cons_zero, List.set_cons_succ])
    refine wpAnyH_done (by kernel_rfl) ?_ _
    go_wp2_with fail
    have z1 := HX4.out.cell 1
    have z2 := HX4.out.cell 2
    simp only [exCells, List.getElem?_toArray, List.getElem?_cons_zero, List.getElem?_cons_succ] at z1 z2
    have zf := HX4.out.frozen
    have HFIN := hid (fun f c => xt_fin HG4.out HX4.out HK4.out HGQ.out f c)
    clear HX4 HS4 HX1 HK1 HT HT1 HK4
    cases fo
    · cases ch
      · go_region
        all_goals (go_wp2_with fail)
        all_goals go_ret
        all_goals exact HFIN.out f' c'
      · go_region
        all_goals (go_wp2_with fail)
        all_goals go_ret
        all_goals exact HFIN.out f' true
    · cases ch
      · go_region
        all_goals (go_wp2_with fail)
        all_goals go_ret
        all_goals exact HFIN.out true c'
      · go_region
        all_goals (go_wp2_with fail)
        all_goals go_ret
        all_goals exact HFIN.out true true
  · clear kb3
    go_enter Tryz.func15, Tryz.ntmps15
    go_upto_region 4 with fail
    generalize w.alloc (.cells #[.int .i64 3, .int .i64 f, .int .i64 t, .string nm, .int .i32 r, .bool sg] 30) = w1 at *
    refine wp_region_held_drew (S := fun w' : World => w'.cell? ⟨g, 0, none⟩ = some (.pointer (some ⟨q, 0, none⟩)) ∧ w'.cell? ⟨w.heap.size, 0, none⟩ = some (.int .i64 3) ∧ w'.cell? ⟨w.heap.size, 1, none⟩ = some (.int .i64 f) ∧ w'.cell? ⟨w.heap.size, 2, none⟩ = some (.int .i64 t) ∧ w'.cell? ⟨w.heap.size, 3, none⟩ = some (.string nm) ∧ w'.cell? ⟨w.heap.size, 4, none⟩ = some (.int .i32 r) ∧ w'.cell? ⟨w.heap.size, 5, none⟩ = some (.bool sg) ∧ w.heap.size < w'.heap.size) (by kernel_rfl) ⟨y0, x0, x1, x2, x3, x4, x5, hlt⟩ (fun hHeld => ?_)
    clear x0 x1 x2 x3 x4 x5 y0
    refine wpAnyH_take (i := 0) (v := ?hv11) rfl (by kernel_rfl) (by kernel_rfl) (by kernel_rfl) (fun _ _ _ h => h) (Or.inl ⟨by rfl, ?hy11⟩) (by assumption) ?hr11
    case hy11 => (intro w hSw; (try dsimp only at hSw); go_simp; try with_reducible rfl)
    (try simp only [Act.put, List.getElem_toArray, List.getElem_cons_zero, List.setIfInBounds_toArray, List.set_cons_zero, List.set_cons_succ])
    refine wpAnyH_take (i := 1) (v := ?hv12) rfl (by kernel_rfl) (by kernel_rfl) (by kernel_rfl) (fun _ _ _ h => h) (Or.inl ⟨by rfl, ?hy12⟩) (by assumption) ?hr12
    case hy12 => (intro w hSw; (try dsimp only at hSw); go_simp; try with_reducible rfl)
    (try simp only [Act.put, List.getElem_toArray, List.getElem_cons_zero, List.getElem_cons_succ, List.setIfInBounds_toArray, List.set_cons_zero, List.set_cons_succ])
    refine wpAnyH_take (i := 2) (v := ?hv13) rfl (by kernel_rfl) (by kernel_rfl) (by kernel_rfl) (fun _ _ _ h => h) (Or.inl ⟨by rfl, ?hy13⟩) (by assumption) ?hr13
    case hy13 => (intro w hSw; (try dsimp only at hSw); go_simp; try with_reducible rfl)
    (try simp only [Act.put, List.getElem_toArray, List.getElem_cons_zero, List.getElem_cons_succ, List.setIfInBounds_toArray, List.set_cons_zero, List.set_cons_succ])
    refine wpAnyH_take (i := 3) (v := ?hv14) rfl (by kernel_rfl) (by kernel_rfl) (by kernel_rfl) (fun _ _ _ h => h) (Or.inl ⟨by rfl, ?hy14⟩) (by assumption) ?hr14
    case hy14 => (intro w hSw; (try dsimp only at hSw); go_simp; try with_reducible rfl)
    (try simp only [Act.put, List.getElem_toArray, List.getElem_cons_zero, List.getElem_cons_succ, List.setIfInBounds_toArray, List.set_cons_zero, List.set_cons_succ])
    refine wpAnyH_take (i := 4) (v := ?hv15) rfl (by kernel_rfl) (by kernel_rfl) (by kernel_rfl) (fun _ _ _ h => h) (Or.inl ⟨by rfl, ?hy15⟩) (by assumption) ?hr15
    case hy15 => (intro w hSw; (try dsimp only at hSw); go_simp; try with_reducible rfl)
    (try simp only [Act.put, List.getElem_toArray, List.getElem_cons_zero, List.getElem_cons_succ, List.setIfInBounds_toArray, List.set_cons_zero, List.set_cons_succ])
    refine wpAnyH_ready (rs := [5]) (by kernel_rfl) (by simp) ?_
    refine AllReadyH.cons rfl (fun K hK => ?_) AllReadyH.nil
    go_simp
    go_at_call 37
    refine (HT.out _ HK1.out.drew HT1.out).mono ?_
    rintro e w4 ⟨rfl, hk4, hg4⟩
    have HK4 := hid hk4
    have HX4 := hid (HX1.out.drew.grown hg4 (by have := HGQ.out; simpa using this))
    have HG4 := hid (HG1.out.trans ((⟨rfl, rfl, rfl, Nat.le_refl _, fun _ _ _ _ => rfl⟩ : Kept2 g q w1 w1.drew).trans (Kept2.of_q hg4)))
    have hS4 : w4.cell? ⟨g, 0, none⟩ = some (.pointer (some ⟨q, 0, none⟩)) ∧ w4.cell? ⟨w.heap.size, 0, none⟩ = some (.int .i64 3) ∧ w4.cell? ⟨w.heap.size, 1, none⟩ = some (.int .i64 f) ∧ w4.cell? ⟨w.heap.size, 2, none⟩ = some (.int .i64 t) ∧ w4.cell? ⟨w.heap.size, 3, none⟩ = some (.string nm) ∧ w4.cell? ⟨w.heap.size, 4, none⟩ = some (.int .i32 r) ∧ w4.cell? ⟨w.heap.size, 5, none⟩ = some (.bool sg) ∧ w.heap.size < w4.heap.size := ⟨HX4.out.cell 0, NB_next hHeld.2 HNE.out.2.symm hg4⟩
    have HS4 := hid hS4
    clear hk4 hg4 hS4
    go_wp2_with fail
    refine hK.out _ _ HS4.out (fun hHeld2 => ?_)
    clear hK K hHeld hHeld2
    refine wpAnyH_take (i := 6) (v := ?hv16) rfl (by kernel_rfl) (by kernel_rfl) (by kernel_rfl) (fun _ _ _ h => h) (Or.inl ⟨by rfl, ?hy16⟩) (by assumption) ?hr16
    case hy16 => (intro w hSw; (try dsimp only at hSw); go_simp; try with_reducible rfl)
    (try simp only [Act.put, List.getElem_toArray, List.getElem_cons_zero, List.getElem_cons_succ, List.setIfInBounds_toArray, List.set_cons_zero, List.set_cons_succ])
    refine wpAnyH_take (i := 7) (v := ?hv17) rfl (by kernel_rfl) (by kernel_rfl) (by kernel_rfl) (fun _ _ _ h => h) (Or.inl ⟨by rfl, ?hy17⟩) (by assumption) ?hr17
    case hy17 => (intro w hSw; (try dsimp only at hSw); go_simp; try with_reducible rfl)
    (try simp only [Act.put, List.getElem_toArray, List.getElem_cons_zero, List.getElem_cons_succ, List.setIfInBounds_toArray, List.set_cons_zero, List.set_cons_succ])
    refine wpAnyH_take (i := 8) (v := ?hv18) rfl (by kernel_rfl) (by kernel_rfl) (by kernel_rfl) (fun _ _ _ h => h) (Or.inl ⟨by rfl, ?hy18⟩) (by assumption) ?hr18
    case hy18 => (intro w hSw; (try dsimp only at hSw); go_simp; try with_reducible rfl)
    (try simp only [Act.put, List.getElem_toArray, List.getElem_cons_zero, List.getElem_cons_succ, List.setIfInBounds_toArray, List.set_cons_zero, List.set_cons_succ])
    refine wpAnyH_take (i := 9) (v := ?hv19) rfl (by kernel_rfl) (by kernel_rfl) (by kernel_rfl) (fun _ _ _ h => h) (Or.inl ⟨by rfl, ?hy19⟩) (by assumption) ?hr19
    case hy19 => (intro w hSw; (try dsimp only at hSw); go_simp; try with_reducible rfl)
    (try simp only [Act.put, List.getElem_toArray, List.getElem_cons_zero, List.getElem_cons_succ, List.setIfInBounds_toArray, List.set_cons_zero, List.set_cons_succ])
    refine wpAnyH_take (i := 10) (v := ?hv20) rfl (by kernel_rfl) (by kernel_rfl) (by kernel_rfl) (fun _ _ _ h => h) (Or.inl ⟨by rfl, ?hy20⟩) (by assumption) ?hr20
    case hy20 => (intro w hSw; (try dsimp only at hSw); go_simp; try with_reducible rfl)
    (try simp only [Act.put, List.getElem_toArray, List.getElem_cons_zero, List.getElem_cons_succ, List.setIfInBounds_toArray, List.set_cons_zero, List.set_cons_succ])
    refine wpAnyH_done (by kernel_rfl) ?_ _
    go_wp2_with fail
    have z1 := HX4.out.cell 1
    have z2 := HX4.out.cell 2
    simp only [exCells, List.getElem?_toArray, List.getElem?_cons_zero, List.getElem?_cons_succ] at z1 z2
    have zf := HX4.out.frozen
    have HFIN := hid (fun f c => xt_fin HG4.out HX4.out HK4.out HGQ.out f c)
    clear HX4 HS4 HX1 HK1 HT HT1 HK4
    cases fo
    · cases ch
      · go_region
        all_goals (go_wp2_with fail)
        all_goals go_ret
        all_goals exact HFIN.out f' c'
      · go_region
        all_goals (go_wp2_with fail)
        all_goals go_ret
        all_goals exact HFIN.out f' true
    · cases ch
      · go_region
        all_goals (go_wp2_with fail)
        all_goals go_ret
        all_goals exact HFIN.out true c'
      · go_region
        all_goals (go_wp2_with fail)
        all_goals go_ret
        all_goals exact HFIN.out true true
end Go.Proofs.YtlfbgaknljdanaaGreatDoor
