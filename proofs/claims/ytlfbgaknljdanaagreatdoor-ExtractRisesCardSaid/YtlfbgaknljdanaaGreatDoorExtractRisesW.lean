/- The walk of the law ExtractRises. -/
import Derived.Test.YtlfbgaknljdanaaGreatDoorExLaid
import Derived.Test.YtlfbgaknljdanaaGreatDoorExI
import Derived.Test.YtlfbgaknljdanaaGreatDoorExR
import Derived.Test.YtlfbgaknljdanaaGreatDoorTkW
import Derived.StillTailTactics
import Derived.Test.YtlfbgaknljdanaaGreatDoorOpen
namespace Go.Proofs.YtlfbgaknljdanaaGreatDoor.extractRises
open Go.RowKit Go.Shelf
open Go.Lib (hid)
set_option linter.unusedVariables false
set_option linter.unusedSimpArgs false
set_option maxRecDepth 100000

set_option maxHeartbeats 8000000 in
theorem walk (b : Option Addr) (bLen bCap : Nat) (bD : List Int) (w : World) (w0 : IsRow .u8 w b bLen bCap bD) (hsh : w.ShapedOpen Tryz.prog) (hsp : TabSp w) :
    Calls Tryz.prog 6 #[.slice b bLen bCap] w fun e w' => e = .returned (.bool true) ∧ Below w.heap.size w w' := by
  have hmx := mx_of hsh
  obtain ⟨s, hba⟩ := ba_of w0
  have HAW := hid (fun W (h : Below w.heap.size w W) => exawake_any W (hsp.below h (Nat.le_refl _)) (hmx.below h (Nat.le_refl _)))
  by_cases hbig : 300 < bLen
  · have hbig' : (300 : Int) < (bLen : Int) := by omega
    clear hba w0
    go_enter Tryz.func6, Tryz.ntmps6
    go_wp2_with fail
    refine (HAW.out _ (Below.refl _ _)).mono ?_
    rintro e w2 ⟨rfl, hb2⟩
    have HB2 := hid hb2
    clear hb2
    go_wp2_with fail
    go_ret
    exact ⟨rfl, HB2.out⟩
  have hbig' : ¬ (300 : Int) < (bLen : Int) := by omega
  have HALL := hid (fun W (h : Below w.heap.size w W) => exAll_any b bLen bCap s W (hba.below h (Nat.le_refl _)) (hmx.below h (Nat.le_refl _)) (hsp.below h (Nat.le_refl _)) (by omega))
  have HAT := hid (fun i W (h : Below w.heap.size w W) => tokAt_any b bLen bCap s i W (hba.below h (Nat.le_refl _)) (hmx.below h (Nat.le_refl _)) (by omega))
  have HLS := hid hba.1
  have HCH := hid (exAll_chain s)
  have HME := hid (fun t (h : t ∈ toks s) => toks_mem h)
  have hl300 : (exAll s).length ≤ 300 := by
    have := exAll_len s
    have := HLS.out
    omega
  clear hba w0 hmx hsp hsh
  go_enter Tryz.func6, Tryz.ntmps6
  go_wp2_with fail
  refine (HAW.out _ (Below.refl _ _)).mono ?_
  rintro e w2 ⟨rfl, hb2⟩
  have HB2 := hid hb2
  clear hb2
  go_wp2_with fail
  refine (HALL.out _ HB2.out).mono ?_
  rintro e w3 ⟨v, rfl, hrow, hb3⟩
  obtain ⟨A, cap, rfl, hir⟩ := IR.of_own hrow
  have HB3 := hid (HB2.out.trans (hb3.mono HB2.out.size))
  generalize exAll s = l at *
  obtain ⟨n, hn⟩ : ∃ n, n = l.length := ⟨_, rfl⟩
  rw [← hn] at hir hl300
  have HIR := hid hir
  have HN := hid hn
  clear hb3 hrow hir HALL HAW
  rw [← hn]
  clear hn
  go_wp2_with fail
  go_loopg [4, 5] n (fun kx s4 s5 wr => ∃ (i at_ : Nat), s4 = .int .i64 at_ ∧ s5 = .int .i64 i ∧ i ≤ n ∧ n - i ≤ kx ∧ Hid (chainI s at_ (l.drop i) s.size) ∧ Hid (Below w3.heap.size w3 wr))
  case atStart => exact ⟨0, 0, rfl, rfl, Nat.zero_le _, Nat.le_refl _, HCH.out, Below.refl _ _⟩
  case round =>
    obtain ⟨i, at_, rfl, rfl, hi, hg, HC, HBR⟩ := hrel
    by_cases hlt : i < n
    · have hlt' : (i : Int) < (n : Int) := by omega
      have hil : i < l.length := by rw [← HN.out]; exact hlt
      obtain ⟨g, rfl, hgl, x0, x1, x2, x3, x4, x5, x6⟩ := (HIR.out.below HBR.out (Nat.le_refl _)).at_ hil
      have hc := HC.out
      rw [List.drop_eq_getElem_cons hil] at hc
      obtain ⟨q1, q2, q3, q4⟩ := hc
      have HC2 := hid q4
      have HIN := hid q3
      clear q3 q4 x0 x3 x4 x5 x6 HC
      have HZC := hid (fun W (h : Below w3.heap.size w3 W) => (HIR.out.below h (Nat.le_refl _)).at_ hil)
      generalize l[i] = t at *
      obtain ⟨tr, ta, tz, tf, tc, tn, tp⟩ := t
      simp only at x1 x2 q1 q2 HC2 HZC
      have HBW := hid (HB3.out.trans (HBR.out.mono HB3.out.size))
      obtain ⟨te, hte⟩ : ∃ te : Nat, te = ta + tz := ⟨_, rfl⟩
      have HTE := hid hte
      have hsum : (ta : Int) + (tz : Int) = (te : Int) := by omega
      have htel : (te : Int) ≤ 300 := by
        obtain ⟨⟨u, hu, g1, g2⟩, hall⟩ := HIN.out
        have h3 := (hall u hu g1 g2).1
        have h4 := (HME.out u hu).2.1
        have h5 := HLS.out
        have h6 := HTE.out
        simp only at h3
        omega
      have h1 : ¬ (ta : Int) < (at_ : Int) := by omega
      have h2 : ¬ (tz : Int) < 1 := by omega
      clear hte q1 q2
      go_wp2_with fail
      go_region
      go_wp2_with fail
      refine (HAT.out ta wr.drew HBW.out.drew).mono ?_
      rintro e w5 ⟨hat, hb5⟩
      have HB5 := hid (HBR.out.drew.trans (hb5.mono (by have := HBR.out.size; exact this)))
      rcases hat with ⟨u, UA, UC, hl, _, hu, rfl⟩ | ⟨hno, rfl⟩
      · have hmem : u ∈ toks s := by rw [hl]; simp
        have hin := HIN.out.2 u hmem (by have := hu.1; simp only; omega) (by have := hu.2; simp only; omega)
        have hme := HME.out u hmem
        obtain ⟨uk, uf, ut, un, ur, us⟩ := u
        simp only at hin hme
        simp only [tkC]
        have hle : ¬ (ut : Int) < (te : Int) := by have := HTE.out; have := hin.1; omega
        have hlu : (ut : Int) ≤ 300 := by have := HLS.out; have := hme.2.1; omega
        have HCA := hid hin.2
        have HTE2 := hid (show chainI s te (l.drop (i + 1)) s.size from by rw [HTE.out]; exact HC2.out)
        have hb6 := fun o => HB5.out.alloc HB5.out.size o
        have HB6 := hid hb6
        clear hin hme hl hmem hu hb5 hb6 HIN hsum HC2 x1 x2 h1 h2
        rcases HCA.out with h0 | ⟨h0, h1, h2, h3⟩
        · subst h0
          go_upto_region 12 with fail
          have hbk := Blk.new w5 30 #[.int .i64 0, .int .i64 uf, .int .i64 ut, .string un, .int .i32 ur, .bool us]
          have y0 := hbk.cell 0
          have y1 := hbk.cell 1
          have y2 := hbk.cell 2
          simp only [List.getElem?_toArray, List.getElem?_cons_zero, List.getElem?_cons_succ] at y0 y1 y2
          have HB7 := hid (HB6.out (.cells #[.int .i64 0, .int .i64 uf, .int .i64 ut, .string un, .int .i32 ur, .bool us] 30))
          clear hbk HB6 HB5
          generalize w5.alloc (.cells #[.int .i64 0, .int .i64 uf, .int .i64 ut, .string un, .int .i32 ur, .bool us] 30) = w6 at *
          go_quiet (fail)
          have HB8 := hid (show Below w3.heap.size w3 (w6.drewN nq) from HB7.out.trans (below_drewN _ w6 nq))
          go_wp2_with fail
          go_roundg (n - (i + 1))
          case measure => omega
          case rel => exact ⟨i + 1, te, rfl, by go_num, by omega, Nat.le_refl _, HTE2.out, HB8.out⟩
        · subst h1
          have h2' : uf = ta := h2.symm
          have h3' : ut = te := by have := HTE.out; omega
          subst h2' h3'
          clear h0 h2 h3
          go_upto_region 12 with fail
          have hbk := Blk.new w5 30 #[.int .i64 1, .int .i64 uf, .int .i64 ut, .string un, .int .i32 ur, .bool us]
          have y0 := hbk.cell 0
          have y1 := hbk.cell 1
          have y2 := hbk.cell 2
          simp only [List.getElem?_toArray, List.getElem?_cons_zero, List.getElem?_cons_succ] at y0 y1 y2
          have HB7 := hid (HB6.out (.cells #[.int .i64 1, .int .i64 uf, .int .i64 ut, .string un, .int .i32 ur, .bool us] 30))
          obtain ⟨g2, e2, _, z0, z1, z2, z3, z4, z5, z6⟩ := HZC.out _ HB7.out
          cases e2
          clear z0 z2 z3 z4 z5 z6
          clear hbk HB6 HB5
          generalize w5.alloc (.cells #[.int .i64 1, .int .i64 uf, .int .i64 ut, .string un, .int .i32 ur, .bool us] 30) = w6 at *
          go_quiet (fail)
          have HB8 := hid (show Below w3.heap.size w3 (w6.drewN nq) from HB7.out.trans (below_drewN _ w6 nq))
          go_wp2_with fail
          go_roundg (n - (i + 1))
          case measure => omega
          case rel => exact ⟨i + 1, ut, rfl, by go_num, by omega, Nat.le_refl _, HTE2.out, HB8.out⟩
      · exfalso
        obtain ⟨u, hu, g1, g2⟩ := HIN.out.1
        exact hno u hu ⟨by simp only at g1; omega, by simp only at g2; omega⟩
    · have hlt' : ¬ (i : Int) < (n : Int) := by omega
      have hc := HC.out
      rw [List.drop_of_length_le (by rw [← HN.out]; omega)] at hc
      have hat : (at_ : Int) ≤ (bLen : Int) := by
        have h1 : at_ ≤ s.size := hc
        have := HLS.out
        omega
      clear hlt hg hc
      go_wp2_with fail
      go_ret
      exact ⟨rfl, HB3.out.trans (HBR.out.mono HB3.out.size)⟩
end Go.Proofs.YtlfbgaknljdanaaGreatDoor.extractRises
