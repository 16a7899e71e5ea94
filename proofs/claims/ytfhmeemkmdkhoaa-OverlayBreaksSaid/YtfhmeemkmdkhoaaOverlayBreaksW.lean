/- The walk of the law OverlayBreaks. -/
import Derived.Deep.RegionHeld3
import Derived.IntWalk
import Derived.Test.YtfhmeemkmdkhoaaItems2
import Derived.Test.YtfhmeemkmdkhoaaBreaks
import Derived.Test.YtfhmeemkmdkhoaaOpenRows
namespace Go.Proofs.Ytfhmeemkmdkhoaa.overlayBreaks
open Go.RowKit
open Go.Lib (hid)
set_option linter.unusedVariables false

theorem itrow_of {w : World} {a : Option Addr} {len cap : Nat} {D : List (List Value)} (h : IsAggRow [.int .i32, .int .i64, .int .i64, .bool, .bool, .bool, .bool] w a len cap D) : ∃ xs : List It, len = xs.length ∧ ItRow w a xs := by
  obtain ⟨hl, hD, _, _, h5⟩ := h
  have hex : ∀ i, i < len → ∃ x : It, ∃ r, D[i]? = some r ∧ r = x.cells := by
    intro i hi
    have hi' : i < D.length := by omega
    obtain ⟨h1, h2⟩ := hD D[i] (List.getElem_mem hi')
    obtain ⟨c0, g0, z0, rfl, _⟩ := h2 0 _ rfl
    obtain ⟨c1, g1, z1, rfl, _⟩ := h2 1 _ rfl
    obtain ⟨c2, g2, z2, rfl, _⟩ := h2 2 _ rfl
    obtain ⟨c3, g3, z3, rfl⟩ := h2 3 _ rfl
    obtain ⟨c4, g4, z4, rfl⟩ := h2 4 _ rfl
    obtain ⟨c5, g5, z5, rfl⟩ := h2 5 _ rfl
    obtain ⟨c6, g6, z6, rfl⟩ := h2 6 _ rfl
    refine ⟨⟨z0, z1, z2, z3, z4, z5, z6⟩, D[i], List.getElem?_eq_getElem hi', ?_⟩
    obtain ⟨x0, x1, x2, x3, x4, x5, x6, e⟩ := list_of_len7 D[i] h1
    rw [e] at g0 g1 g2 g3 g4 g5 g6 ⊢
    simp at g0 g1 g2 g3 g4 g5 g6
    subst g0 g1 g2 g3 g4 g5 g6
    rfl
  obtain ⟨xs, hx, hp⟩ := exists_list len hex
  refine ⟨xs, hx.symm, fun i x hi => ?_⟩
  obtain ⟨r, hr, rfl⟩ := hp i x hi
  have hlt := (List.getElem?_eq_some_iff.1 hi).1
  rcases h5 with h0 | ⟨b, off, rfl, hb, hc⟩
  · omega
  · exact ⟨b, off, rfl, hb, fun j c hj => hc i _ j c hr hj⟩

theorem borow_of {w : World} {a : Option Addr} {len cap : Nat} {D : List Bool} (h : IsBoolRow w a len cap D) : len = D.length ∧ BoRow w a D := by
  obtain ⟨hl, _, _, h5⟩ := h
  refine ⟨hl.symm, fun i x hi => ?_⟩
  have hlt := (List.getElem?_eq_some_iff.1 hi).1
  rcases h5 with h0 | ⟨b, off, rfl, hb, hc⟩
  · omega
  · exact ⟨b, off, rfl, hb, hc i x hi⟩

theorem owns_slice {W : World} {B : Nat} {e : TypeId} {k n : Nat} {v : Value} {xs : List Value} (h : W.ownsRow B e k v n xs) : ∃ A c, v = .slice A n c := by
  obtain ⟨a, c, hv, _⟩ := owns_form h
  exact ⟨a, c, hv⟩
theorem clsOf_eq (xs : List It) : clsOf xs = (xs.map (fun x => cls x.r)).map (Value.int .i64) := by simp [clsOf]

set_option maxRecDepth 100000 in
set_option maxHeartbeats 8000000 in
theorem walk (m : Int) (l : Option Addr) (lLen lCap : Nat) (lD : List (List Value)) (rules : Option Addr) (rulesLen rulesCap : Nat) (rulesD : List Bool) (w : World) (w0 : (Lit.int .i64 m).wf = true) (w1 : IsAggRow [.int .i32, .int .i64, .int .i64, .bool, .bool, .bool, .bool] w l lLen lCap lD) (w2 : IsBoolRow w rules rulesLen rulesCap rulesD) :
    Calls Try.prog 8 #[.int .i64 m, .slice l lLen lCap, .slice rules rulesLen rulesCap] w fun e w' => e = .returned (.bool true) ∧ Below w.heap.size w w' := by
  clear w0
  have hm1 : lLen ≤ 9223372036854775807 := by have := w1.2.2.1; have := w1.2.2.2.1; unfold maxLen at this; omega
  have hm2 : rulesLen ≤ 9223372036854775807 := by have := w2.2.1; have := w2.2.2.1; unfold maxLen at this; omega
  obtain ⟨xs, hn, hs⟩ := itrow_of w1
  obtain ⟨hr, ht⟩ := borow_of w2
  clear w1 w2
  have HN := hid hn
  have HR := hid hr
  have HS := hid hs
  have HT := hid ht
  clear hn hr hs ht
  by_cases hbig : 60 < lLen
  · have hbig' : (60 : Int) < (lLen : Int) := by omega
    go_enter Try.func8, Try.ntmps8
    go_wp2_with (go_at_call 12; refine (awake25_any _).mono ?_; rintro e w3 ⟨rfl, hb3⟩)
    go_ret
    exact ⟨rfl, by assumption⟩
  have hbig' : ¬ (60 : Int) < (lLen : Int) := by omega
  by_cases hbig2 : 70 < rulesLen
  · have hbig2' : (70 : Int) < (rulesLen : Int) := by omega
    go_enter Try.func8, Try.ntmps8
    go_wp2_with (go_at_call 12; refine (awake25_any _).mono ?_; rintro e w3 ⟨rfl, hb3⟩)
    go_ret
    exact ⟨rfl, by assumption⟩
  have hbig2' : ¬ (70 : Int) < (rulesLen : Int) := by omega
  obtain ⟨n, hnn⟩ : ∃ n, n = lLen := ⟨_, rfl⟩
  obtain ⟨nr, hnr⟩ : ∃ n, n = rulesLen := ⟨_, rfl⟩
  subst hnn hnr
  have hq1 : n ≤ 60 := by omega
  have hq2 : nr ≤ 70 := by omega
  go_enter Try.func8, Try.ntmps8
  go_wp2_with fail
  refine (awake25_any _).mono ?_
  rintro e w1 ⟨rfl, hb1⟩
  have HB1 := hid hb1
  have z1 := hb1.size
  clear hb1
  go_wp2_with fail
  refine (list_any l n lCap xs HN.out _ (HS.out.below HB1.out (Nat.le_refl _)) (by omega)).mono ?_
  rintro e w2 ⟨v1, rfl, ho1, hb2⟩
  have HB2 := hid (HB1.out.trans (hb2.mono z1))
  have z2 := HB2.out.size
  obtain ⟨A1, c1, rfl⟩ := owns_slice ho1
  have hi1 := ItRow.of_own ho1 HN.out
  have HI1 := hid hi1
  clear hb2 HB1 ho1 hi1
  go_wp2_with fail
  by_cases hne : nr = n + 1
  · subst hne
    refine (breaks_any m A1 rules n c1 (n + 1) rulesCap xs rulesD HN.out HR.out rfl _ HI1.out (HT.out.below HB2.out (Nat.le_refl _)) (by omega)).mono ?_
    rintro e w3 ⟨rfl, hblk, hb3⟩
    have HBLK3 := hid hblk
    have HB3 := hid (HB2.out.trans (hb3.mono z2))
    clear hblk hb3 HB2 HI1
    have z3 := HB3.out.size
    go_wp2_with fail
    refine (list_any l n lCap xs HN.out _ (HS.out.below HB3.out (Nat.le_refl _)) (by omega)).mono ?_
    rintro e w4 ⟨v2, rfl, ho2, hb4⟩
    have HB4 := hid (HB3.out.trans (hb4.mono z3))
    have z4 := HB4.out.size
    have hbl4 := HBLK3.out.below hb4 HBLK3.out.lt
    have HBLK4 := hid hbl4
    clear hbl4
    obtain ⟨A2, c2, rfl⟩ := owns_slice ho2
    have hi2 := ItRow.of_own ho2 HN.out
    have HI2 := hid hi2
    clear hb4 HB3 ho2 hi2
    go_wp2_with fail
    refine (classes_any A2 n c2 xs HN.out _ HI2.out (by omega)).mono ?_
    rintro e w5 ⟨v3, rfl, ho3, hb5⟩
    have HB5 := hid (HB4.out.trans (hb5.mono z4))
    have z5 := HB5.out.size
    have hbl5 := HBLK4.out.below hb5 HBLK4.out.lt
    have HBLK5 := hid hbl5
    clear hbl5
    obtain ⟨A3, c3, rfl⟩ := owns_slice ho3
    have HO3 := hid ho3
    clear hb5 HB4 ho3 HI2
    go_wp2_with fail
    refine (refclasses_any l n lCap xs HN.out _ (HS.out.below HB5.out (Nat.le_refl _)) (by omega)).mono ?_
    rintro e w6 ⟨v4, rfl, ho4, hb6⟩
    have HB6 := hid (HB5.out.trans (hb6.mono z5))
    have z6 := HB6.out.size
    have hbl6 := HBLK5.out.below hb6 HBLK5.out.lt
    have HBLK6 := hid hbl6
    clear hbl6
    obtain ⟨A4, c4, rfl⟩ := owns_slice ho4
    have ho3 := owns_below HO3.out hb6
    rw [clsOf_eq] at ho3 ho4
    have hl3 : n = (xs.map (fun x => cls x.r)).length := by rw [List.length_map]; exact HN.out
    have hi3 := IntsAt.of_own ho3 hl3
    have hi4 := IntsAt.of_own ho4 hl3
    have his := is_eq A3 A4 n c3 c4 _ hl3 w6 hi3 hi4 (by omega)
    have HIS := hid his
    clear hb6 HB5 HO3 ho3 ho4 hl3 hi3 hi4 his
    go_wp2_with fail
    refine HIS.out.mono ?_
    rintro e w9 ⟨rfl, q, hw9⟩
    have HB9 : Hid (Below w.heap.size w w9) := by rw [hw9]; exact HB6.out.trans (below_drewN _ _ _)
    have HBLK9 : Hid (Blk w9 w2.heap.size 3 (arr m xs rulesD n)) := by rw [hw9]; exact HBLK6.out
    clear hw9 HB6 HIS
    generalize w2.heap.size = g at *
    have hnn1 : (n : Int) ≤ 60 := by omega
    go_wp2_with fail
    go_loopw [8] (fun s8 wr => ∃ (i : Nat), s8 = .int .i64 i ∧ i ≤ n + 1 ∧ Hid (Below w9.heap.size w9 wr)) (fun s8 _ => n + 1 - (intOf s8).toNat)
    case atStart => exact ⟨0, rfl, Nat.zero_le _, Below.refl _ _⟩
    case round =>
      obtain ⟨i, rfl, hi, HB⟩ := hrel
      by_cases hlt : i < n + 1
      · have hgl := HBLK9.out.lt
        have hcg := (HB.out.cell (p := ⟨g, i, none⟩) hgl).trans ((HBLK9.out.cell i).trans (arr_get m xs rulesD n i (by have := HR.out; omega)))
        have hlt' : (i : Int) < (n : Int) + 1 := by omega
        by_cases hin : 0 < i ∧ i < n
        · obtain ⟨k, rfl⟩ : ∃ k, i = k + 1 := ⟨i - 1, by omega⟩
          rw [if_pos hin] at hcg
          have hx0 : ∃ x, xs[k]? = some x := ⟨_, List.getElem?_eq_getElem (by have := HN.out; omega)⟩
          have hy0 : ∃ y, xs[k + 1]? = some y := ⟨_, List.getElem?_eq_getElem (by have := HN.out; omega)⟩
          have hr0 : ∃ r, rulesD[k + 1]? = some r := ⟨_, List.getElem?_eq_getElem (by have := HR.out; omega)⟩
          obtain ⟨x, hx⟩ := hx0
          obtain ⟨y, hy⟩ := hy0
          obtain ⟨ru, hru⟩ := hr0
          rw [← btw_cell m xs rulesD k x y ru hx hy hru] at hcg
          obtain ⟨b, off, rfl, hbl, hc0⟩ := HS.out k x hx
          obtain ⟨b', off', he, _, hc1⟩ := HS.out (k + 1) y hy
          injection he with he
          injection he with he1 he2
          subst he1 he2
          obtain ⟨rb, roff, rfl, hrb, hcr⟩ := HT.out (k + 1) ru hru
          obtain ⟨r0, a0, s0, f0, c0, n0, p0⟩ := x
          obtain ⟨r1, a1, s1, f1, c1, n1, p1⟩ := y
          have hbw := HB9.out.trans (HB.out.mono HB9.out.size)
          have hsz := hbw.size
          have hsz9 := HB.out.size
          have hc0 := fun j c hc => (hbw.cell (p := ⟨b, off + (k * 7 + j), none⟩) hbl).trans (hc0 j c hc)
          have hc1 := fun j c hc => (hbw.cell (p := ⟨b, off + ((k + 1) * 7 + j), none⟩) hbl).trans (hc1 j c hc)
          have hS0 : (fun w' : World => w'.cell? ⟨b, off + k * 7, none⟩ = some (.int .i32 r0) ∧ w'.cell? ⟨b, off + k * 7 + 1, none⟩ = some (.int .i64 a0) ∧ w'.cell? ⟨b, off + k * 7 + 2, none⟩ = some (.int .i64 s0) ∧ w'.cell? ⟨b, off + k * 7 + 3, none⟩ = some (.bool f0) ∧ w'.cell? ⟨b, off + k * 7 + 4, none⟩ = some (.bool c0) ∧ w'.cell? ⟨b, off + k * 7 + 5, none⟩ = some (.bool n0) ∧ w'.cell? ⟨b, off + k * 7 + 6, none⟩ = some (.bool p0) ∧ w'.cell? ⟨b, off + (k + 1) * 7, none⟩ = some (.int .i32 r1) ∧ w'.cell? ⟨b, off + (k + 1) * 7 + 1, none⟩ = some (.int .i64 a1) ∧ w'.cell? ⟨b, off + (k + 1) * 7 + 2, none⟩ = some (.int .i64 s1) ∧ w'.cell? ⟨b, off + (k + 1) * 7 + 3, none⟩ = some (.bool f1) ∧ w'.cell? ⟨b, off + (k + 1) * 7 + 4, none⟩ = some (.bool c1) ∧ w'.cell? ⟨b, off + (k + 1) * 7 + 5, none⟩ = some (.bool n1) ∧ w'.cell? ⟨b, off + (k + 1) * 7 + 6, none⟩ = some (.bool p1) ∧ w'.cell? ⟨rb, roff + (k + 1), none⟩ = some (.bool ru) ∧ w'.cell? ⟨g, k + 1, none⟩ = some (.int .i64 (btw m r0 n0 p0 f1 c1 n1 p1 ru)) ∧ Below w9.heap.size w9 w') wr := by
            refine ⟨by simpa only [Nat.add_zero] using hc0 0 _ rfl, by simpa only [← Nat.add_assoc, Nat.add_zero] using hc0 1 _ rfl, by simpa only [← Nat.add_assoc, Nat.add_zero] using hc0 2 _ rfl, by simpa only [← Nat.add_assoc, Nat.add_zero] using hc0 3 _ rfl, by simpa only [← Nat.add_assoc, Nat.add_zero] using hc0 4 _ rfl, by simpa only [← Nat.add_assoc, Nat.add_zero] using hc0 5 _ rfl, by simpa only [← Nat.add_assoc, Nat.add_zero] using hc0 6 _ rfl, by simpa only [Nat.add_zero] using hc1 0 _ rfl, by simpa only [← Nat.add_assoc, Nat.add_zero] using hc1 1 _ rfl, by simpa only [← Nat.add_assoc, Nat.add_zero] using hc1 2 _ rfl, by simpa only [← Nat.add_assoc, Nat.add_zero] using hc1 3 _ rfl, by simpa only [← Nat.add_assoc, Nat.add_zero] using hc1 4 _ rfl, by simpa only [← Nat.add_assoc, Nat.add_zero] using hc1 5 _ rfl, by simpa only [← Nat.add_assoc, Nat.add_zero] using hc1 6 _ rfl, (hbw.cell (p := ⟨rb, roff + (k + 1), none⟩) hrb).trans hcr, hcg, HB.out⟩
          obtain ⟨e0, e1, e2, e3, e4, e5, e6, e7, e8, e9, e10, e11, e12, e13, e14, e15, e16⟩ := hS0
          have eB := e16.drew
          have hw1 : IntKind.i64.wrap ((k : Int) + 1 - 1) = (k : Int) := by rw [Int.add_sub_cancel]; exact IntWalk.i64_in _ (by omega)
          have hw2 : IntKind.i64.wrap (k : Int) = (k : Int) := IntWalk.i64_in _ (by omega)
          have hid1 : ((k : Int) + 1).toNat = k + 1 := by omega
          have hk1 : (0 : Int) ≤ (k : Int) + 1 := by omega
          have hk2 : (k : Int) + 1 < (n : Int) := by omega
          have hk3 : (k : Int) + 1 < (n : Int) + 1 := by omega
          have hk4 : (k : Int) < (n : Int) := by omega
          have hk5 : (0 : Int) ≤ (k : Int) := by omega
          have hk6 : (0 : Int) < (k : Int) + 1 := by omega
          have HH := hid refbetween_any
          have hgs : g < wr.heap.size := by omega
          clear hc0 hc1 hcr hx hy hru hcg HB hbw
          go_wp2_with fail
          go_region_held3 (fun w' : World => w'.cell? ⟨b, off + k * 7, none⟩ = some (.int .i32 r0) ∧ w'.cell? ⟨b, off + k * 7 + 1, none⟩ = some (.int .i64 a0) ∧ w'.cell? ⟨b, off + k * 7 + 2, none⟩ = some (.int .i64 s0) ∧ w'.cell? ⟨b, off + k * 7 + 3, none⟩ = some (.bool f0) ∧ w'.cell? ⟨b, off + k * 7 + 4, none⟩ = some (.bool c0) ∧ w'.cell? ⟨b, off + k * 7 + 5, none⟩ = some (.bool n0) ∧ w'.cell? ⟨b, off + k * 7 + 6, none⟩ = some (.bool p0) ∧ w'.cell? ⟨b, off + (k + 1) * 7, none⟩ = some (.int .i32 r1) ∧ w'.cell? ⟨b, off + (k + 1) * 7 + 1, none⟩ = some (.int .i64 a1) ∧ w'.cell? ⟨b, off + (k + 1) * 7 + 2, none⟩ = some (.int .i64 s1) ∧ w'.cell? ⟨b, off + (k + 1) * 7 + 3, none⟩ = some (.bool f1) ∧ w'.cell? ⟨b, off + (k + 1) * 7 + 4, none⟩ = some (.bool c1) ∧ w'.cell? ⟨b, off + (k + 1) * 7 + 5, none⟩ = some (.bool n1) ∧ w'.cell? ⟨b, off + (k + 1) * 7 + 6, none⟩ = some (.bool p1) ∧ w'.cell? ⟨rb, roff + (k + 1), none⟩ = some (.bool ru) ∧ w'.cell? ⟨g, k + 1, none⟩ = some (.int .i64 (btw m r0 n0 p0 f1 c1 n1 p1 ru)) ∧ Below w9.heap.size w9 w')
            (first
              | exact ⟨e0, e1, e2, e3, e4, e5, e6, e7, e8, e9, e10, e11, e12, e13, e14, e15, eB⟩
              | (go_split_ands; refine ⟨?_, ?_, ?_, ?_, ?_, ?_, ?_, ?_, ?_, ?_, ?_, ?_, ?_, ?_, ?_, ?_, ?_⟩ <;> first | (rw [hb.cell (by simp; omega)]; assumption) | exact Below.trans eB (hb.mono hsz9)))
            (first
              | (go_at_call 11; refine (HH.out _ _ _ _ _ _ _ _ _ _ _ _ _ _ _ _ _).mono ?_; rintro e w' ⟨rfl, hb⟩))
          clear hk1 hk4 hk5
          go_wp2_with fail
          go_roundw
          case rel => exact ⟨k + 1 + 1, by go_num, by omega, eB.trans (hb.mono hsz9)⟩
          case measure => simp [intOf]; omega
        · rw [if_neg hin] at hcg
          rcases Nat.eq_zero_or_pos i with h0 | h0
          · subst h0
            go_wp2_with fail
            go_roundw
            case rel => exact ⟨1, by go_num, by omega, HB⟩
            case measure => simp [intOf]
          · have hi1 : (0 : Int) < (i : Int) := by omega
            have hi2 : ¬ (i : Int) < (n : Int) := by omega
            go_wp2_with fail
            go_roundw
            case rel => exact ⟨i + 1, by go_num, by omega, HB⟩
            case measure => simp [intOf]; omega
      · have hge : ¬ (i : Int) < (n : Int) + 1 := by omega
        have hbw := HB9.out.trans (HB.out.mono HB9.out.size)
        go_wp2_with fail
        go_ret
        exact ⟨rfl, hbw⟩
  · refine (breaks_short m A1 rules n c1 nr rulesCap w2 hne (by omega) (by omega)).mono ?_
    rintro e w3 ⟨rfl, rfl⟩
    have HB3 := HB2
    have hne' : ¬ (nr : Int) = (n : Int) + 1 := by omega
    have hnn1 : (n : Int) ≤ 60 := by omega
    clear hne HB2 HI1
    have z3 := HB3.out.size
    go_wp2_with fail
    refine (list_any l n lCap xs HN.out _ (HS.out.below HB3.out (Nat.le_refl _)) (by omega)).mono ?_
    rintro e w4 ⟨v2, rfl, ho2, hb4⟩
    have HB4 := hid (HB3.out.trans (hb4.mono z3))
    have z4 := HB4.out.size
    obtain ⟨A2, c2, rfl⟩ := owns_slice ho2
    have hi2 := ItRow.of_own ho2 HN.out
    have HI2 := hid hi2
    clear hb4 HB3 ho2 hi2
    go_wp2_with fail
    refine (classes_any A2 n c2 xs HN.out _ HI2.out (by omega)).mono ?_
    rintro e w5 ⟨v3, rfl, ho3, hb5⟩
    have HB5 := hid (HB4.out.trans (hb5.mono z4))
    have z5 := HB5.out.size
    obtain ⟨A3, c3, rfl⟩ := owns_slice ho3
    have HO3 := hid ho3
    clear hb5 HB4 ho3 HI2
    go_wp2_with fail
    refine (refclasses_any l n lCap xs HN.out _ (HS.out.below HB5.out (Nat.le_refl _)) (by omega)).mono ?_
    rintro e w6 ⟨v4, rfl, ho4, hb6⟩
    have HB6 := hid (HB5.out.trans (hb6.mono z5))
    have z6 := HB6.out.size
    obtain ⟨A4, c4, rfl⟩ := owns_slice ho4
    have ho3 := owns_below HO3.out hb6
    rw [clsOf_eq] at ho3 ho4
    have hl3 : n = (xs.map (fun x => cls x.r)).length := by rw [List.length_map]; exact HN.out
    have hi3 := IntsAt.of_own ho3 hl3
    have hi4 := IntsAt.of_own ho4 hl3
    have his := is_eq A3 A4 n c3 c4 _ hl3 w6 hi3 hi4 (by omega)
    have HIS := hid his
    clear hb6 HB5 HO3 ho3 ho4 hl3 hi3 hi4 his
    go_wp2_with fail
    refine HIS.out.mono ?_
    rintro e w9 ⟨rfl, q, hw9⟩
    have HB9 : Hid (Below w.heap.size w w9) := by rw [hw9]; exact HB6.out.trans (below_drewN _ _ _)
    clear hw9 HB6 HIS
    go_wp2_with fail
    go_ret
    exact ⟨rfl, HB9.out⟩
end Go.Proofs.Ytfhmeemkmdkhoaa.overlayBreaks
