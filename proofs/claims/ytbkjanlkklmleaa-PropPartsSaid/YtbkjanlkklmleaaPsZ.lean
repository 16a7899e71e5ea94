/- Chapter 02: Has: the walk. -/
import Derived.Test.YtbkjanlkklmleaaRgY2
import Derived.Test.YtbkjanlkklmleaaRgE
import Derived.Outline
namespace Go.Proofs.Ytbkjanlkklmleaa
open Go.RowKit
open Go.Lib (hid)
set_option linter.unusedVariables false
set_option maxRecDepth 100000

theorem in32_of_ok {l : List Rg} (h : ∀ x ∈ l, okR x) : In32 l := fun x hx => by
  obtain ⟨a, b, c⟩ := h x hx
  exact ⟨⟨by omega, by omega⟩, ⟨by omega, by omega⟩⟩
theorem hascmp_any (lo hi r : Int) (w : World) (h1 : 0 ≤ hi) (h2 : hi ≤ 1114111) (h3 : -2147483648 ≤ r) (h4 : r ≤ 2147483647) : Calls Try.prog 31 #[.agg #[.int .i32 lo, .int .i32 hi], .int .i32 r] w fun e w' => e = .returned (.int .i64 (hi - r)) ∧ Below w.heap.size w w' := by
  have e1 : IntKind.i64.wrap hi = hi := IntWalk.i64_in _ (by omega)
  have e2 : IntKind.i64.wrap r = r := IntWalk.i64_in _ (by omega)
  have e3 : IntKind.i64.wrap (hi - r) = hi - r := IntWalk.i64_in _ (by omega)
  go_enter Try.func31, Try.ntmps31
  go_wp2_with fail
  go_ret
  exact ⟨rfl, (Below.refl _ _).alloc (Nat.le_refl _) _⟩
/-- Where the first one stands that ends at r or behind it. -/
def AtR (l : List Rg) (r : Int) (k : Nat) : Prop := k ≤ l.length ∧ (∀ j (h : j < l.length), j < k → l[j].2 < r) ∧ ∀ j (h : j < l.length), k ≤ j → r ≤ l[j].2
def RetF (w : World) (e : Ending) (w' : World) (l : List Rg) (r : Int) : Prop := ∃ (k : Nat) (b : Bool), e = .returned (.tuple #[.int .i64 k, .bool b]) ∧ AtR l r k ∧ Below w.heap.size w w'
theorem rightF_rise : ∀ {l : List Rg} {b : Int}, rightF b l → ∀ i j (hi : i < l.length) (hj : j < l.length), i ≤ j → l[i].2 ≤ l[j].2
  | x :: l, b, h, 0, 0, _, _, _ => Int.le_refl _
  | x :: l, b, h, 0, j + 1, _, hj, _ => by
    have h2 := rightF_all h.2.2.2 _ (List.getElem_mem (show j < l.length by simpa using hj))
    simp only [List.getElem_cons_zero, List.getElem_cons_succ]
    omega
  | x :: l, b, h, i + 1, 0, _, _, hij => absurd hij (by omega)
  | x :: l, b, h, i + 1, j + 1, hi, hj, hij => by
    have := rightF_rise h.2.2.2 i j (by simpa using hi) (by simpa using hj) (by omega)
    simpa using this
theorem rightF_gap : ∀ {l : List Rg} {b : Int}, rightF b l → ∀ i j (hi : i < l.length) (hj : j < l.length), i < j → l[i].2 < l[j].1
  | x :: l, b, h, i, 0, _, _, hij => absurd hij (Nat.not_lt_zero _)
  | x :: l, b, h, 0, j + 1, _, hj, _ => by
    have h2 := rightF_all h.2.2.2 _ (List.getElem_mem (show j < l.length by simpa using hj))
    simp only [List.getElem_cons_zero, List.getElem_cons_succ]
    omega
  | x :: l, b, h, i + 1, j + 1, hi, hj, hij => by
    have := rightF_gap h.2.2.2 i j (by simpa using hi) (by simpa using hj) (by omega)
    simpa using this
set_option maxHeartbeats 4000000 in
theorem bsearch_any (a : Option Addr) (n cap : Nat) (l : List Rg) (r : Int) (w : World) (hl : RR w a n cap l) (hn : n ≤ 1000000) (hr : rightR l) (h3 : -2147483648 ≤ r) (h4 : r ≤ 2147483647) :
    Calls Try.prog 30 #[.slice a n cap, .int .i32 r, .func (.func 31) #[] #[]] w fun e w' => RetF w e w' l r := by
  have HL := hid hl
  have HN := hid hl.1
  have HRI := hid (rightF_rise hr)
  have HOK := hid (right_ok hr)
  clear hl hr
  go_enter Try.func30, Try.ntmps30
  go_wp2_with fail
  go_loopg [9, 10] n (fun kx s9 s10 wr => ∃ lo hi : Nat, s9 = .int .i64 lo ∧ s10 = .int .i64 hi ∧ lo ≤ hi ∧ hi ≤ n ∧ hi - lo ≤ kx ∧ Hid (Below w.heap.size w wr) ∧ Hid ((∀ j (h : j < l.length), j < lo → l[j].2 < r) ∧ ∀ j (h : j < l.length), hi ≤ j → r ≤ l[j].2))
  case atStart => exact ⟨0, n, rfl, rfl, Nat.zero_le _, Nat.le_refl _, by omega, Below.refl _ _, (⟨fun j hj h => absurd h (Nat.not_lt_zero _), fun j hj h => by have := HN.out; omega⟩ : (∀ j (h : j < l.length), j < 0 → l[j].2 < r) ∧ ∀ j (h : j < l.length), n ≤ j → r ≤ l[j].2)⟩
  case round =>
    obtain ⟨lo, hi, rfl, rfl, hlh, hin, hg, HB, HI⟩ := hrel
    by_cases hlt : lo < hi
    · have hml : (lo + hi) / 2 < l.length := by have := HN.out; omega
      obtain ⟨b, off, rfl, hbl, x0, x1⟩ := (HL.out.below HB.out (Nat.le_refl _)).at hml
      obtain ⟨o1, o2, o3⟩ := HOK.out _ (List.getElem_mem hml)
      have hI1 : l[(lo + hi) / 2].2 < r → ∀ j (h : j < l.length), j < (lo + hi) / 2 + 1 → l[j].2 < r := fun h j hj hjm => by have := HRI.out j _ hj hml (by omega); omega
      have hI2 : r ≤ l[(lo + hi) / 2].2 → ∀ j (h : j < l.length), (lo + hi) / 2 ≤ j → r ≤ l[j].2 := fun h j hj hjm => by have := HRI.out _ j hml hj hjm; omega
      generalize l[(lo + hi) / 2] = x at *
      obtain ⟨xl, xh⟩ := x
      simp only at x0 x1 o1 o2 o3 hI1 hI2
      have HI1 := hid hI1
      have HI2 := hid hI2
      have hc := hascmp_any xl xh r wr (by omega) o3 h3 h4
      have HC := hid hc
      clear hI1 hI2 hc
      by_cases hyx : xh - r < 0
      · have HI3 := hid (HI1.out (by omega))
        go_wp2_with (go_at_call 31; refine HC.out.mono ?_; rintro e w2 ⟨rfl, hb⟩; have HB2 := hid (HB.out.trans (hb.mono HB.out.size)); clear hb)
        go_roundg (hi - ((lo + hi) / 2 + 1))
        case measure => omega
        case rel =>
          exact ⟨(lo + hi) / 2 + 1, hi, by rw [show ((lo : Int) + (hi : Int)) / 2 + 1 = (((lo + hi) / 2 + 1 : Nat) : Int) by omega], rfl, by omega, hin, Nat.le_refl _, HB2, (⟨HI3.out, HI.out.2⟩ : (∀ j (h : j < l.length), j < (lo + hi) / 2 + 1 → l[j].2 < r) ∧ ∀ j (h : j < l.length), hi ≤ j → r ≤ l[j].2)⟩
      · have HI3 := hid (HI2.out (by omega))
        go_wp2_with (go_at_call 31; refine HC.out.mono ?_; rintro e w2 ⟨rfl, hb⟩; have HB2 := hid (HB.out.trans (hb.mono HB.out.size)); clear hb)
        go_roundg ((lo + hi) / 2 - lo)
        case measure => omega
        case rel =>
          exact ⟨lo, (lo + hi) / 2, rfl, by rw [show ((lo : Int) + (hi : Int)) / 2 = (((lo + hi) / 2 : Nat) : Int) by omega], by omega, by omega, Nat.le_refl _, HB2, (⟨HI.out.1, HI3.out⟩ : (∀ j (h : j < l.length), j < lo → l[j].2 < r) ∧ ∀ j (h : j < l.length), (lo + hi) / 2 ≤ j → r ≤ l[j].2)⟩
    · obtain rfl : hi = lo := by omega
      have HA := hid (show AtR l r hi from ⟨by have := HN.out; omega, HI.out.1, HI.out.2⟩)
      by_cases hn2 : hi < n
      · have hml : hi < l.length := by have := HN.out; omega
        obtain ⟨b, off, rfl, hbl, x0, x1⟩ := (HL.out.below HB.out (Nat.le_refl _)).at hml
        obtain ⟨o1, o2, o3⟩ := HOK.out _ (List.getElem_mem hml)
        generalize l[hi] = x at *
        obtain ⟨xl, xh⟩ := x
        simp only at x0 x1 o1 o2 o3
        have hc := hascmp_any xl xh r wr (by omega) o3 h3 h4
        have HC := hid hc
        clear hc
        go_wp2_with (go_at_call 31; refine HC.out.mono ?_; rintro e w2 ⟨rfl, hb⟩; have HB2 := hid (HB.out.trans (hb.mono HB.out.size)); clear hb)
        go_ret2
        exact ⟨hi, _, rfl, HA.out, HB2.out⟩
      · go_wp2_with fail
        go_ret2
        exact ⟨hi, _, rfl, HA.out, HB.out⟩
theorem atR_has {l : List Rg} {r : Int} {k : Nat} (h : AtR l r k) (hr : rightR l) : inB l r = if h : k < l.length then decide (l[k].1 ≤ r) else false := by
  obtain ⟨h1, h2, h3⟩ := h
  split
  · rename_i hk
    rw [Bool.eq_iff_iff, inB_iff, decide_eq_true_iff]
    constructor
    · rintro ⟨x, hx, q1, q2⟩
      obtain ⟨j, hj, rfl⟩ := List.mem_iff_getElem.1 hx
      rcases Nat.lt_trichotomy j k with q | q | q
      · have := h2 j hj q; omega
      · subst q; exact q1
      · have := rightF_rise hr k j hk hj (by omega)
        have hjj := rightF_gap hr k j hk hj q
        have := h3 k hk (Nat.le_refl _)
        omega
    · intro q
      exact ⟨l[k], List.getElem_mem hk, q, h3 k hk (Nat.le_refl _)⟩
  · rename_i hk
    rw [Bool.eq_false_iff]
    intro q
    obtain ⟨x, hx, q1, q2⟩ := (inB_iff l r).1 q
    obtain ⟨j, hj, rfl⟩ := List.mem_iff_getElem.1 hx
    have := h2 j hj (by omega)
    omega
theorem has_any (a : Option Addr) (n cap : Nat) (l : List Rg) (r : Int) (w : World) (hl : RR w a n cap l) (hn : n ≤ 1000000) (h32 : In32 l) (h3 : -2147483648 ≤ r) (h4 : r ≤ 2147483647) :
    Calls Try.prog 13 #[.slice a n cap, .int .i32 r] w fun e w' => e = .returned (.bool (inB (knownL l) r)) ∧ Below w.heap.size w w' := by
  have HK := hid (known_any a n cap l w hl hn h32)
  have hkl := knownL_len l
  have HRI := hid (knownL_right l)
  rw [← hl.1] at hkl
  generalize knownL l = k at *
  clear hl h32
  go_enter Try.func13, Try.ntmps13
  go_wp2_with fail
  refine HK.out.mono ?_
  rintro e w1 ⟨A, m, c, rfl, hr, hb⟩
  have HR := hid hr
  have HB := hid hb
  have HN := hid hr.1
  have hm : m ≤ 1000000 := by have := hr.1; omega
  clear hr hb HK hkl
  go_wp2_with fail
  refine (bsearch_any A m c k r w1 HR.out hm HRI.out h3 h4).mono ?_
  rintro e w2 ⟨j, b, rfl, hat, hb⟩
  have HH := hid (atR_has hat HRI.out)
  have HB2 := hid (HB.out.trans (hb.mono HB.out.size))
  have HR2 := hid (HR.out.below hb (Nat.le_refl _))
  clear hat hb
  by_cases hj : j < m
  · have hjk : j < k.length := by have := HN.out; omega
    obtain ⟨b', off, rfl, hbl, x0, x1⟩ := HR2.out.at hjk
    have hh := HH.out
    rw [dif_pos hjk] at hh
    generalize k[j] = x at *
    obtain ⟨xl, xh⟩ := x
    simp only at x0 x1 hh
    have HHH := hid hh
    clear hh
    go_wp2_with fail
    go_ret
    exact ⟨ret_bool HHH.out.symm, HB2.out⟩
  · have hh := HH.out
    rw [dif_neg (by have := HN.out; omega)] at hh
    have HHH := hid hh
    clear hh
    go_wp2_with fail
    go_ret
    exact ⟨ret_bool HHH.out.symm, HB2.out⟩
end Go.Proofs.Ytbkjanlkklmleaa
