/- Chapter 23: an extractor takes any token: the walk. -/
import Derived.Test.YtlfbgaknljdanaaGreatDoorExE
import Derived.Test.YtlfbgaknljdanaaGreatDoorTkF
namespace Go.Proofs.YtlfbgaknljdanaaGreatDoor
open Go.RowKit
open Go.Lib (hid)
set_option linter.unusedVariables false
set_option linter.unusedSimpArgs false
set_option maxRecDepth 100000

set_option maxHeartbeats 8000000 in
/-- An extractor takes a token. -/
theorem xTake_any (g q : Nat) (ty ty2 : TypeId) (x : Xs) (t : Tk) (a : Option Addr) (cap : Nat) (zs : List Int) (w : World) (hk : Blk w q ty x.n.cells) (hx : Blk w g ty2 (exCells q x.fo x.ch)) (hgq : g ≠ q) (hn : x.n.ok) (hnm : t.name.size ≤ maxLen) (ht : TabSp w)
    (hs : S1.SB w a cap zs) (hat : t.fr + zs.length ≤ 1000000) (hft : t.fr ≤ t.til) (htil : t.til ≤ 1000000) (hag : ∀ b off, a = some ⟨b, off, none⟩ → b ≠ g) :
    Calls Tryz.prog 15 #[.pointer (some ⟨g, 0, none⟩), .agg (tkC t), .slice a zs.length cap] w fun e w' => XT g q ty ty2 w w' e (exTake x t zs) := by
  by_cases hk23 : t.kind = 2 ∨ t.kind = 3
  · have h := xTake_tag g q ty ty2 x.n x.fo x.ch t.kind hk23 t.fr t.til t.r t.name t.single (.slice a zs.length cap) w hk hx hgq hn hnm ht
    have e := exTake_tag (x := x) (zs := zs) hk23
    rw [← e] at h
    exact h
  have hbx := (Below.refl w.heap.size w).alloc (Nat.le_refl _) (.cells (tkC t) 30)
  have hk1 := hk.alloc (.cells (tkC t) 30)
  have hx1 := hx.alloc (.cells (tkC t) 30)
  have hq := Blk.new w 30 (tkC t)
  have hs1 := sb_grown hs (grown_of_below hbx (some g)) hag
  have HH := hid (exTake_hid (x := x) (t := t) (zs := zs) hk23)
  have HX0 := hid (exTake_text (x := x) (t := t) (zs := zs))
  have HX1 := hid (exTake_ref (x := x) (t := t) (zs := zs))
  have HXO := hid (exTake_other (x := x) (t := t) (zs := zs) hk23)
  have HTX := hid (fun W (h1 : Blk W q ty x.n.cells) (h2 : Blk W g ty2 (exCells q x.fo x.ch)) (h3 : S1.SB W a cap zs) => xtext_any g q ty ty2 x.n x.fo x.ch t.fr a cap zs W h1 h2 hgq h3 hat hag)
  have HIT := hid (fun W (h1 : Blk W q ty x.n.cells) (h2 : Blk W g ty2 (exCells q x.fo x.ch)) => item_any g q ty ty2 x.n x.fo x.ch t.r t.fr ((t.til - t.fr : Nat) : Int) W h1 h2 hgq)
  have HHD := hid (fun W (h1 : Blk W q ty x.n.cells) => nHidden_any q ty x.n W h1)
  obtain ⟨kd, fr, til, nm, r, sg⟩ := t
  simp only [tkC] at hbx hk1 hx1 hq hs1 ⊢
  simp only at HH HX0 HX1 HXO HTX HIT hft htil hat hk23 hnm
  have x0 := hq.cell 0
  have x1 := hq.cell 1
  have x2 := hq.cell 2
  have x3 := hq.cell 3
  have x4 := hq.cell 4
  have x5 := hq.cell 5
  have y0 := hx1.cell 0
  simp only [exCells, List.getElem?_toArray, List.getElem?_cons_zero, List.getElem?_cons_succ] at x0 x1 x2 x3 x4 x5 y0
  have HK1 := hid hk1
  have HEX := hid hx1
  have HS1 := hid hs1
  have HB1 := hid hbx
  have HG1 := hid (Kept2.of_below (g := g) (q := q) hbx (Nat.le_refl _))
  have hkn2 : (kd == 2) = false := by simp; omega
  have hkn3 : (kd == 3) = false := by simp; omega
  have hsub : (til : Int) - (fr : Int) = ((til - fr : Nat) : Int) := by omega
  have hsz : ((til - fr : Nat) : Int) ≤ 1000000 := by omega
  generalize til - fr = sz at *
  obtain ⟨n, fo, ch⟩ := x
  simp only at HH HX0 HX1 HXO HTX HIT HHD hk1 hx1 y0
  clear hk hk1 hx hx1 hbx hq ht hgq hs hs1 hat hag hn hnm hft
  generalize hR : exTake ⟨n, fo, ch⟩ ⟨kd, fr, til, nm, r, sg⟩ zs = R at HH HX0 HX1 HXO ⊢
  clear hR
  go_enter Tryz.func15, Tryz.ntmps15
  go_wp2_with fail
  generalize w.alloc (.cells #[.int .i64 kd, .int .i64 fr, .int .i64 til, .string nm, .int .i32 r, .bool sg] 30) = w1 at *
  refine (HHD.out _ HK1.out).mono ?_
  rintro e w2 ⟨rfl, hw2⟩
  obtain rfl : w1 = w2 := hw2.symm
  by_cases hh : 0 < n.h
  · have HE := hid (HH.out hh)
    clear HH HX0 HX1 HXO HTX HIT
    go_wp2_with fail
    go_ret
    rw [HE.out]
    exact ⟨_, rfl, World.ownsRow_nil _ _ _ _, HEX.out, HK1.out, HG1.out⟩
  by_cases h0 : kd = 0
  · subst h0
    have HE := hid (HX0.out rfl (by omega))
    clear HH HX0 HX1 HXO HIT
    go_wp2_with fail
    refine (HTX.out _ HK1.out HEX.out HS1.out).mono ?_
    rintro e w3 ⟨v, rfl, hr3, hx3, hk3, hg3⟩
    have HR3 := hid hr3
    have HX3 := hid hx3
    have HK3 := hid hk3
    have HG3 := hid (HG1.out.trans (Kept2.of_g hg3))
    clear hr3 hx3 hk3 hg3
    go_wp2_with fail
    go_ret
    rw [HE.out]
    refine ⟨_, rfl, owns_base ?_ HB1.out.size, ?_, HK3.out, HG3.out⟩
    · rw [pcIts_len]; exact HR3.out
    · rw [← pcs_isEmpty]; exact HX3.out
  have h0b : (kd == 0) = false := by simpa using h0
  by_cases h1 : kd = 1
  · subst h1
    have HE := hid (HX1.out rfl (by omega))
    clear HH HX0 HX1 HXO HTX
    go_wp2_with fail
    refine (HIT.out _ HK1.out HEX.out).mono ?_
    rintro e w3 ⟨rfl, hx3, hk3, hg3⟩
    have HX3 := hid (fun o => hx3.alloc o)
    have HK3 := hid (fun o => hk3.alloc o)
    have HG3 := hid (fun o => HG1.out.trans (Kept2.of_g (hg3.trans (World.grownBy_alloc w3 o (some g)))))
    have HRW := hid (World.ownsRow_lit (base := w.heap.size) (e := 34) (size := 7) w3 #[.int .i32 r, .int .i64 fr, .int .i64 sz, .bool fo, .bool ch, .bool (decide (0 < n.b)), .bool (decide (0 < n.p))] 1 (Nat.le_trans HB1.out.size hg3.size) (by unfold maxLen; omega) rfl)
    clear hx3 hk3 hg3
    go_wp2_with fail
    go_ret
    rw [HE.out]
    exact ⟨_, rfl, HRW.out, HX3.out _, HK3.out _, HG3.out _⟩
  · have h1b : (kd == 1) = false := by simpa using h1
    have HE := hid (HXO.out h0 h1)
    clear HH HX0 HX1 HXO HTX HIT
    go_wp2_with fail
    go_ret
    rw [HE.out]
    exact ⟨_, rfl, World.ownsRow_nil _ _ _ _, HEX.out, HK1.out, HG1.out⟩
end Go.Proofs.YtlfbgaknljdanaaGreatDoor
