/- strings.Replacer, of the three marks, built once and asked: walks. -/
import Derived.Test.YtpnbkecchfhimaaGreatDoorRpF
import Derived.Laws.NewBlocks
namespace Go.Proofs.YtpnbkecchfhimaaGreatDoor
open Go.RowKit
open Go.Lib (hid)
set_option linter.unusedVariables false
set_option linter.unusedSimpArgs false
set_option maxRecDepth 100000

abbrev rpIf (g : Nat) : Value := .iface 250 (.pointer (some ⟨g, 0, none⟩))
def OnceB (q : Nat) (w : World) (e : Ending) (w' : World) : Prop := e = .returned (.tuple #[]) ∧ ∃ g w1, RpAt w w1 w.heap.size g ∧ w' = (w1.setCell ⟨q, 3, none⟩ (rpIf g)).setCell ⟨q, 4, none⟩ (.slice none 0 0)
set_option maxHeartbeats 4000000 in
theorem rpOnce_any (q r c : Nat) (x0 x1 x2 x3 : Value) (w : World) (hq : Blk w q 147 #[x0, x1, x2, x3, .slice (some ⟨r, 0, none⟩) 6 c]) (h6 : Six w r) :
    Calls Tryz.prog 83 #[.pointer (some ⟨q, 0, none⟩)] w fun e w' => OnceB q w e w' := by
  have HB := hid (rpBuild_any q r c x0 x1 x2 x3 w hq h6)
  have HQ := hid hq
  have hql := hq.lt
  clear hq h6
  go_enter Tryz.func83, Tryz.ntmps83
  go_wp2_with fail
  refine HB.out.mono ?_
  rintro e w1 ⟨g, rfl, hat⟩
  have HAT := hid hat
  obtain ⟨vT, v62, v60, v38, hs, _⟩ := hat
  have hq1 := HQ.out.below hs.bel hql
  have y3 := hq1.cell 3
  have y4 := hq1.cell 4
  have yf := hq1.frozen
  simp only [List.getElem?_toArray, List.getElem?_cons_zero, List.getElem?_cons_succ] at y3 y4
  clear hs hq1
  go_wp2_with fail
  go_end0
  exact ⟨rfl, g, w1, HAT.out, rfl⟩
theorem Six.set {w : World} {r q i : Nat} {v : Value} (h : Six w r) (hne : r ≠ q) : Six (w.setCell ⟨q, i, none⟩ v) r :=
  ⟨by rw [size_set]; exact h.1, fun j hj => (World.cell?_setCell_other _ _ _ _ (by intro e; injection e with e; exact hne e.symm)).trans (h.2 j hj)⟩
def SlowB (q : Nat) (w : World) (e : Ending) (w' : World) : Prop := e = .returned (.tuple #[]) ∧ ∃ g w1, RpAt (w.setCell ⟨q, 1, none⟩ (.int .i32 1)) w1 (w.setCell ⟨q, 1, none⟩ (.int .i32 1)).heap.size g ∧ w' = ((((w1.setCell ⟨q, 3, none⟩ (rpIf g)).setCell ⟨q, 4, none⟩ (.slice none 0 0)).drew.setCell ⟨q, 0, none⟩ (.int .u32 1)).setCell ⟨q, 1, none⟩ (.int .i32 0))
set_option maxHeartbeats 4000000 in
theorem rpSlow_any (q r c : Nat) (w : World) (hq : Blk w q 147 #[.int .u32 0, .int .i32 0, .int .u32 0, .nilIface, .slice (some ⟨r, 0, none⟩) 6 c]) (h6 : Six w r) (hne : r ≠ q) :
    Calls Tryz.prog 115 #[.pointer (some ⟨q, 0, none⟩), .func (.func 83) #[.pointer (some ⟨q, 0, none⟩)] #[]] w fun e w' => SlowB q w e w' := by
  have hqL := hq.set_ 1 (.int .i32 1)
  have h6L := h6.set (i := 1) (v := .int .i32 1) hne
  have y1 := hq.cell 1
  have yf := hq.frozen
  simp only [List.getElem?_toArray, List.getElem?_cons_zero, List.getElem?_cons_succ] at y1
  have HLK := hid (syLock ⟨q, 1, none⟩ w y1 (yf 1))
  have HQL := hid hqL
  have HON := hid (rpOnce_any q r c _ _ _ _ _ hqL h6L)
  have z0 := hqL.cell 0
  have hql := hqL.lt
  simp only [List.setIfInBounds_toArray, List.set_cons_succ, List.set_cons_zero, List.getElem?_toArray, List.getElem?_cons_zero, List.getElem?_cons_succ] at z0
  have HLD := hid (syLoad ⟨q, 0, none⟩ 0 _ z0)
  have hnot : ∀ (x : Bool) (w : World), (Op.unary .not (.bool x)).run Tryz.prog w = .ok (.bool (!x)) w := fun _ _ => rfl
  clear hq h6 hqL h6L yf y1 z0
  go_enter_defers Tryz.func115, Tryz.ntmps115
  go_wp2_with fail
  refine HLK.out.mono ?_
  rintro e wL ⟨rfl, hwL⟩
  obtain rfl := hwL
  go_wp2_with fail
  refine HLD.out.mono ?_
  rintro e wM ⟨rfl, hwM⟩
  obtain rfl := hwM
  go_wp2_with fail
  refine HON.out.mono ?_
  rintro e wN ⟨rfl, g, w1, hat, hwN⟩
  have HAT := hid hat
  obtain ⟨vT, v62, v60, v38, hs, _⟩ := hat
  have hq2 := ((HQL.out.below hs.bel hql).set_ 3 (rpIf g)).set_ 4 (.slice none 0 0)
  rw [← hwN] at hq2
  have HWN := hid hwN
  have c0 := hq2.cell 0
  have c1 := hq2.cell 1
  have cf := hq2.frozen
  simp only [List.setIfInBounds_toArray, List.set_cons_succ, List.set_cons_zero, List.getElem?_toArray, List.getElem?_cons_zero, List.getElem?_cons_succ] at c0 c1
  have HC0 := hid c0
  have HC1 := hid c1
  have HCF := hid cf
  clear hs hq2 hwN c0 c1 cf
  go_wp2_with fail
  refine leaves_cons (f := 159) (args := #[.pointer (some ⟨q, 0, none⟩), .bool true]) (by simp) (by simp [go_sem]) ?_
  refine (syStore ⟨q, 0, none⟩ (.int .u32 0) .returning _ HC0.out (HCF.out 0)).mono ?_
  rintro e u' w'' ⟨rfl, rfl, rfl⟩
  refine leaves_cons (f := 158) (args := #[.pointer (some ⟨q, 1, none⟩)]) (by simp [settle]) (by simp [go_sem]) ?_
  refine (syUnlock ⟨q, 1, none⟩ _ _ ((World.cell?_setCell_other wN.drew ⟨q, 0, none⟩ ⟨q, 1, none⟩ (.int .u32 1) (by simp)).trans HC1.out) (by rw [World.frozen?_setCell]; exact HCF.out 1)).mono ?_
  rintro e u' w'' ⟨rfl, rfl, rfl⟩
  simp [Leaves, settle, results, Tryz.results115]
  exact ⟨rfl, g, w1, HAT.out, by rw [HWN.out]⟩
/-- What the Replacer's round leaves: its table, and nothing old turned but its own block. -/
def DoneB (q B : Nat) (w : World) (w' : World) : Prop := ∃ g, B ≤ g ∧ RpR w' g ∧ w'.cell? ⟨q, 3, none⟩ = some (rpIf g) ∧ Below q w w' ∧ q < w'.heap.size
theorem slow_done {q B : Nat} {w : World} {e : Ending} {w' : World} (h : SlowB q w e w') (hq : q < w.heap.size) (hB : B ≤ w.heap.size) (hQ : ∃ cs, Blk w q 147 cs ∧ cs.size = 5) : DoneB q B w w' := by
  obtain ⟨_, g, w1, hat, rfl⟩ := h
  have hat0 := hat
  obtain ⟨vT, v62, v60, v38, hs, h1, h2, h3⟩ := hat
  have hsz : (w.setCell ⟨q, 1, none⟩ (.int .i32 1)).heap.size = w.heap.size := size_set _ _ _
  rw [hsz] at hs h1 h2 h3
  -- the four stores: all at q
  have hst : ∀ k, k ≠ q → ((((w1.setCell ⟨q, 3, none⟩ (rpIf g)).setCell ⟨q, 4, none⟩ (.slice none 0 0)).drew.setCell ⟨q, 0, none⟩ (.int .u32 1)).setCell ⟨q, 1, none⟩ (.int .i32 0)).heap[k]? = w1.heap[k]? := fun k hk => by
    have n : ∀ (W : World) (i : Nat) (v : Value), (W.setCell ⟨q, i, none⟩ v).heap[k]? = W.heap[k]? := fun W i v => by
      by_cases hlt : k < W.heap.size
      · exact (grown_set W q i v).block k hlt (fun e => hk (by injection e))
      · rw [Array.getElem?_eq_none (by rw [size_set]; omega), Array.getElem?_eq_none (by omega)]
    rw [n, n]
    show ((w1.setCell ⟨q, 3, none⟩ (rpIf g)).setCell ⟨q, 4, none⟩ (.slice none 0 0)).heap[k]? = _
    rw [n, n]
  have hsz2 : ((((w1.setCell ⟨q, 3, none⟩ (rpIf g)).setCell ⟨q, 4, none⟩ (.slice none 0 0)).drew.setCell ⟨q, 0, none⟩ (.int .u32 1)).setCell ⟨q, 1, none⟩ (.int .i32 0)).heap.size = w1.heap.size := by
    rw [size_set, size_set]
    show ((w1.setCell ⟨q, 3, none⟩ (rpIf g)).setCell ⟨q, 4, none⟩ (.slice none 0 0)).heap.size = _
    rw [size_set, size_set]
  have hw1 : w.heap.size ≤ w1.heap.size := by have := hs.bel.size; rw [hsz] at this; exact this
  have hgw := hs.gB
  obtain ⟨cs, hcs, hc5⟩ := hQ
  have hq1 : Blk w1 q 147 _ := (hcs.set_ 1 (.int .i32 1)).below hs.bel hq
  refine ⟨g, by omega, ?_, ?_, ?_, by rw [hsz2]; omega⟩
  · have hr := RpR.of hat0
    generalize hW : ((((w1.setCell ⟨q, 3, none⟩ (rpIf g)).setCell ⟨q, 4, none⟩ (.slice none 0 0)).drew.setCell ⟨q, 0, none⟩ (.int .u32 1)).setCell ⟨q, 1, none⟩ (.int .i32 0)) = W at *
    have hc : ∀ b j, b ≠ q → W.cell? ⟨b, j, none⟩ = w1.cell? ⟨b, j, none⟩ := fun b j hb => World.cell?_of_block (a := ⟨b, j, none⟩) (hst b hb)
    have hv : ∀ {v s}, RpV w1 w.heap.size g vT v s → ∃ b c, v = .slice (some ⟨b, 0, none⟩) s.size c ∧ b ≠ q ∧ BA W (some ⟨b, 0, none⟩) s.size c s := fun h => by
      obtain ⟨b, c, e, hba, hb1, hb2, _, _⟩ := h.at_
      exact ⟨b, c, e, by omega, hba.stay (hst b (by omega)) (by omega)⟩
    have hgl := hs.gl
    refine ⟨by omega, fun j hj hn => (hc g j (by omega)).trans (hr.none_ j hj hn), fun j qq hj hqq => ?_, ?_⟩
    · have k38 := hs.c 38 (by decide)
      have k60 := hs.c 60 (by decide)
      have k62 := hs.c 62 (by decide)
      rcases repO_some hqq with ⟨rfl, rfl⟩ | ⟨rfl, rfl⟩ | ⟨rfl, rfl⟩
      · obtain ⟨b, c, e, hbq, hba⟩ := hv h3
        obtain ⟨_, _, e0, hlt, _⟩ := hba.2.2.2 (by decide)
        injection e0 with e0
        injection e0 with e1 _
        subst e1
        exact ⟨b, c, (hc g 38 (by omega)).trans (by rw [k38, ← e]; rfl), hba, hlt⟩
      · obtain ⟨b, c, e, hbq, hba⟩ := hv h2
        obtain ⟨_, _, e0, hlt, _⟩ := hba.2.2.2 (by decide)
        injection e0 with e0
        injection e0 with e1 _
        subst e1
        exact ⟨b, c, (hc g 60 (by omega)).trans (by rw [k60, ← e]; rfl), hba, hlt⟩
      · obtain ⟨b, c, e, hbq, hba⟩ := hv h1
        obtain ⟨_, _, e0, hlt, _⟩ := hba.2.2.2 (by decide)
        injection e0 with e0
        injection e0 with e1 _
        subst e1
        exact ⟨b, c, (hc g 62 (by omega)).trans (by rw [k62, ← e]; rfl), hba, hlt⟩
    · obtain ⟨t, c, e⟩ := ownsRow_succ (k := 2) hs.row
      have hrw := hs.row
      rw [e] at hrw
      have htl := hrw.lt t rfl
      exact ⟨t, c, (hc g 256 (by omega)).trans (by rw [hs.cT, e]), by omega, (hc t 0 (by omega)).trans (hrw.cellAt 0 (by decide)), (hc t 1 (by omega)).trans (hrw.cellAt 1 (by decide)), (hc t 2 (by omega)).trans (hrw.cellAt 2 (by decide))⟩
  · have h4 := ((((hq1.set_ 3 (rpIf g)).set_ 4 (.slice none 0 0)))).set_ 0 (.int .u32 1) |>.set_ 1 (.int .i32 0)
    have := h4.cell 3
    have h5 : ((((w1.setCell ⟨q, 3, none⟩ (rpIf g)).setCell ⟨q, 4, none⟩ (.slice none 0 0)).drew.setCell ⟨q, 0, none⟩ (.int .u32 1)).setCell ⟨q, 1, none⟩ (.int .i32 0)).cell? ⟨q, 3, none⟩ = some (rpIf g) := by
      rw [World.cell?_setCell_other _ _ _ _ (by simp), World.cell?_setCell_other _ _ _ _ (by simp)]
      show ((w1.setCell ⟨q, 3, none⟩ (rpIf g)).setCell ⟨q, 4, none⟩ (.slice none 0 0)).cell? ⟨q, 3, none⟩ = _
      rw [World.cell?_setCell_other _ _ _ _ (by simp)]
      have hsome := hq1.cell 3
      have hs3 : 3 < (cs.setIfInBounds 1 (.int .i32 1)).size := by simp; omega
      rw [Array.getElem?_eq_getElem hs3] at hsome
      exact World.cell?_setCell_same _ _ _ hsome
    exact h5
  · refine ⟨?_, ?_, ?_, by rw [hsz2]; exact hw1, fun k hk => ?_⟩
    · have := hs.bel.os; exact this
    · have := hs.bel.tape; exact this
    · have := hs.bel.output; exact this
    · rw [hst k (by omega), hs.bel.block k (by omega)]
      exact (grown_set w q 1 (.int .i32 1)).block k (by omega) (fun e => by injection e with e; omega)
end Go.Proofs.YtpnbkecchfhimaaGreatDoor
