/- Chapter 02: Minus, Same, Has: the walks. -/
import Derived.Test.YteddhjfbnanplaaDoorRgY2
import Derived.Test.YteddhjfbnanplaaDoorRgE
import Derived.Outline
namespace Go.Proofs.YteddhjfbnanplaaDoor
open Go.RowKit
open Go.Lib (hid)
set_option linter.unusedVariables false
set_option maxRecDepth 100000

theorem in32_of_ok {l : List Rg} (h : ∀ x ∈ l, okR x) : In32 l := fun x hx => by
  obtain ⟨a, b, c⟩ := h x hx
  exact ⟨⟨by omega, by omega⟩, ⟨by omega, by omega⟩⟩
theorem minus_any (a1 : Option Addr) (n1 c1 : Nat) (l : List Rg) (a2 : Option Addr) (n2 c2 : Nat) (k : List Rg) (w : World) (h1 : RR w a1 n1 c1 l) (h2 : RR w a2 n2 c2 k)
    (hn1 : n1 ≤ 300000) (hn2 : n2 ≤ 300000) (h321 : In32 l) (h322 : In32 k) :
    Calls Tryd.prog 26 #[.slice a1 n1 c1, .slice a2 n2 c2] w fun e w' => RetR w e w' (cutR (knownL l) (notR (knownL k))) := by
  have HN := hid (not_any a2 n2 c2 k w h2 (by omega) h322)
  have H1 := hid h1
  have H321 := hid h321
  have hkl := knownL_len k
  rw [← h2.1] at hkl
  obtain ⟨q1, q2⟩ := notR_law (knownL_right k)
  have HQ := hid q1
  have hnl := notR_len (knownL k)
  have hkn := knownL_of q1
  have HKN := hid hkn
  clear h1 h2 h321 h322 q1 q2 hkn
  go_enter Tryd.func26, Tryd.ntmps26
  go_wp2_with fail
  refine HN.out.mono ?_
  rintro e w1 ⟨A, m, c, rfl, hr, hb⟩
  have HR := hid hr
  have HB := hid hb
  have hm : m ≤ 400000 := by have := hr.1; omega
  clear hr hb
  go_wp2_with fail
  refine (cut_any a1 n1 c1 l A m c (notR (knownL k)) w1 (H1.out.below HB.out (Nat.le_refl _)) HR.out (by omega) hm H321.out (in32_of_ok (right_ok HQ.out))).mono ?_
  rintro e w2 ⟨A2, m2, c2, rfl, hr, hb⟩
  rw [HKN.out] at hr
  have HR2 := hid hr
  have HB2 := hid (HB.out.trans (hb.mono HB.out.size))
  clear hr hb
  go_wp2_with fail
  go_ret
  exact ⟨_, _, _, rfl, HR2.out, HB2.out⟩
set_option maxHeartbeats 4000000 in
theorem equal_any (a1 : Option Addr) (n1 c1 : Nat) (l : List Rg) (a2 : Option Addr) (n2 c2 : Nat) (k : List Rg) (w : World) (h1 : RR w a1 n1 c1 l) (h2 : RR w a2 n2 c2 k) (hn : n2 ≤ 1000000) :
    Calls Tryd.prog 40 #[.slice a1 n1 c1, .slice a2 n2 c2] w fun e w' => e = .returned (.bool (sameB l k)) ∧ Below w.heap.size w w' := by
  have H1 := hid h1
  have H2 := hid h2
  have hl1 := h1.1
  have hl2 := h2.1
  clear h1 h2
  by_cases hlen : n1 = n2
  · subst hlen
    have HL1 := hid hl1
    have HL2 := hid hl2
    clear hl1 hl2
    go_enter Tryd.func40, Tryd.ntmps40
    go_wp2_with fail
    go_loopg [13] n1 (fun kx s13 wr => ∃ i : Nat, s13 = .int .i64 i ∧ i ≤ n1 ∧ n1 - i ≤ kx ∧ Hid (Below w.heap.size w wr) ∧ Hid (l.take i = k.take i))
    case atStart => exact ⟨0, rfl, Nat.zero_le _, by omega, Below.refl _ _, rfl⟩
    case round =>
      obtain ⟨i, rfl, hi, hg, HB, HT⟩ := hrel
      by_cases hlt : i < n1
      · have hlt' : (i : Int) < (n1 : Int) := by omega
        have hil : i < l.length := by have := HL1.out; omega
        have hik : i < k.length := by have := HL2.out; omega
        obtain ⟨b, off, rfl, hbl, x0, x1⟩ := (H1.out.below HB.out (Nat.le_refl _)).at hil
        obtain ⟨b', off', rfl, hbl', y0, y1⟩ := (H2.out.below HB.out (Nat.le_refl _)).at hik
        have hne : l[i] ≠ k[i] → sameB l k = false := fun h => decide_eq_false fun e => by subst e; exact h rfl
        have hnx : l[i] = k[i] → l.take (i + 1) = k.take (i + 1) := fun h => by
          rw [List.take_add_one, List.take_add_one, List.getElem?_eq_getElem hil, List.getElem?_eq_getElem hik, HT.out, h]
        generalize l[i] = x at *
        generalize k[i] = y at *
        obtain ⟨p0, p1⟩ := x
        obtain ⟨q0, q1⟩ := y
        simp only at x0 x1 y0 y1
        have HNE := hid hne
        have HNX := hid hnx
        have HBD := hid (fun (m : Nat) => HB.out.trans (below_drewN w.heap.size wr m))
        clear hne hnx
        by_cases h0 : p0 = q0
        · subst h0
          have hz : (p0 == p0) = true := by simp
          by_cases h1 : p1 = q1
          · subst h1
            have HN2 := hid (HNX.out rfl)
            have hz1 : (p1 == p1) = true := by simp
            go_wp2_with fail
            go_quiet (fail)
            go_wp2_with fail
            go_roundg (n1 - (i + 1))
            case measure => omega
            case rel => exact ⟨i + 1, by go_num, by omega, Nat.le_refl _, HBD.out _, HN2⟩
          · have HF := hid (HNE.out fun e => h1 (congrArg Prod.snd e))
            have hz1 : (p1 == q1) = false := by simpa using h1
            go_wp2_with fail
            go_quiet (fail)
            go_wp2_with fail
            go_ret
            exact ⟨ret_bool HF.out.symm, HBD.out _⟩
        · have HF := hid (HNE.out fun e => h0 (congrArg Prod.fst e))
          have hz : (p0 == q0) = false := by simpa using h0
          go_wp2_with fail
          go_quiet (fail)
          go_wp2_with fail
          go_ret
          exact ⟨ret_bool HF.out.symm, HBD.out _⟩
      · have hlt' : ¬ (i : Int) < (n1 : Int) := by omega
        have HF := hid (show sameB l k = true from decide_eq_true (by
          have := HT.out
          rwa [List.take_of_length_le (by have := HL1.out; omega), List.take_of_length_le (by have := HL2.out; omega)] at this))
        clear hi hg hlt
        go_wp2_with fail
        go_ret
        exact ⟨ret_bool HF.out.symm, HB.out⟩
  · have HF := hid (show sameB l k = false from decide_eq_false fun e => hlen (by rw [hl1, hl2, e]))
    have hne : ¬ (n1 : Int) = (n2 : Int) := by omega
    clear hl1 hl2 hlen
    go_enter Tryd.func40, Tryd.ntmps40
    go_wp2_with fail
    go_ret
    exact ⟨ret_bool HF.out.symm, Below.refl _ _⟩
theorem same_any (a1 : Option Addr) (n1 c1 : Nat) (l : List Rg) (a2 : Option Addr) (n2 c2 : Nat) (k : List Rg) (w : World) (h1 : RR w a1 n1 c1 l) (h2 : RR w a2 n2 c2 k)
    (hn1 : n1 ≤ 1000000) (hn2 : n2 ≤ 1000000) (h321 : In32 l) (h322 : In32 k) :
    Calls Tryd.prog 21 #[.slice a1 n1 c1, .slice a2 n2 c2] w fun e w' => e = .returned (.bool (sameB (knownL l) (knownL k))) ∧ Below w.heap.size w w' := by
  have HK1 := hid (known_any a1 n1 c1 l w h1 hn1 h321)
  have HK2 := hid (fun (W : World) (h : RR W a2 n2 c2 k) => known_any a2 n2 c2 k W h hn2 h322)
  have hl2 := knownL_len k
  rw [← h2.1] at hl2
  have H2 := hid h2
  clear h1 h2 h321 h322
  go_enter Tryd.func21, Tryd.ntmps21
  go_wp2_with fail
  refine HK1.out.mono ?_
  rintro e w1 ⟨A1, m1, d1, rfl, hr1, hb1⟩
  have HR1 := hid hr1
  have HB1 := hid hb1
  clear hr1 hb1 HK1
  go_wp2_with fail
  refine (HK2.out w1 (H2.out.below HB1.out (Nat.le_refl _))).mono ?_
  rintro e w2 ⟨A2, m2, d2, rfl, hr2, hb2⟩
  have HR2 := hid hr2
  have HR1' := hid (HR1.out.below hb2 (Nat.le_refl _))
  have HB2 := hid (HB1.out.trans (hb2.mono HB1.out.size))
  have hm2 : m2 ≤ 1000000 := by have := hr2.1; omega
  clear hr2 hb2
  go_wp2_with fail
  refine (equal_any A1 m1 d1 _ A2 m2 d2 _ w2 HR1'.out HR2.out hm2).mono ?_
  rintro e w3 ⟨rfl, hb⟩
  have HB3 := hid (HB2.out.trans (hb.mono HB2.out.size))
  clear hb
  go_wp2_with fail
  go_ret
  exact ⟨rfl, HB3.out⟩
end Go.Proofs.YteddhjfbnanplaaDoor
