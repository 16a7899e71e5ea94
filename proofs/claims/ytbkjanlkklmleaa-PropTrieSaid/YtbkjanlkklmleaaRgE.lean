/- Chapter 02: how many numbers; whether a set is just so; what the document knows: walks. -/
import Derived.Test.YtbkjanlkklmleaaRgB
import Derived.Test.YtbkjanlkklmleaaRgD
namespace Go.Proofs.Ytbkjanlkklmleaa
open Go.RowKit
open Go.Lib (hid)
set_option linter.unusedVariables false

theorem countR_take {l : List Rg} {i : Nat} (h : i < l.length) : countR (l.take (i + 1)) = countR (l.take i) + (l[i].2 - l[i].1 + 1) := by
  induction l generalizing i with
  | nil => exact absurd h (Nat.not_lt_zero _)
  | cons x l ih =>
    cases i with
    | zero => simp [countR]
    | succ i =>
      have := ih (i := i) (by simpa using h)
      simp only [List.take_succ_cons, countR, List.getElem_cons_succ]
      omega
theorem countR_take_le {l : List Rg} (h : ∀ x ∈ l, okR x) : ∀ i, 0 ≤ countR (l.take i) ∧ countR (l.take i) ≤ countR l := by
  induction l with
  | nil => intro i; simp [countR]
  | cons x l ih =>
    intro i
    have h1 := h x (List.mem_cons_self ..)
    have h2 := ih (fun y hy => h y (List.mem_cons_of_mem _ hy))
    have h3 := h2 l.length
    rw [List.take_length] at h3
    obtain ⟨a, b, c⟩ := h1
    cases i with
    | zero => simp only [List.take_zero, countR]; omega
    | succ i =>
      have := h2 i
      simp only [List.take_succ_cons, countR]
      omega
theorem RR.at {w : World} {a : Option Addr} {n cap : Nat} {l : List Rg} (h : RR w a n cap l) {i : Nat} (hi : i < l.length) : ∃ b off, a = some ⟨b, off, none⟩ ∧ b < w.heap.size ∧ w.cell? ⟨b, off + i * 2, none⟩ = some (.int .i32 l[i].1) ∧ w.cell? ⟨b, off + i * 2 + 1, none⟩ = some (.int .i32 l[i].2) := by
  have := h.1
  obtain ⟨b, off, e, hb, hc⟩ := h.2.2.2 (by omega)
  exact ⟨b, off, e, hb, (hc i hi).1, (hc i hi).2⟩

set_option maxRecDepth 100000 in
set_option maxHeartbeats 4000000 in
theorem count_any (a : Option Addr) (n cap : Nat) (l : List Rg) (w : World) (hl : RR w a n cap l) (hn : n ≤ 1000000) (h32 : In32 l) :
    Calls Try.prog 11 #[.slice a n cap] w fun e w' => e = .returned (.int .i64 (countR (knownL l))) ∧ Below w.heap.size w w' := by
  have HK := hid (known_any a n cap l w hl hn h32)
  have hkr := knownL_right l
  have hkl := knownL_len l
  rw [← hl.1] at hkl
  clear hl h32
  generalize knownL l = k at *
  have hok := right_ok hkr
  have hcb := countR_bound hkr (by decide)
  have htl := countR_take_le hok
  have HOK := hid hok
  have HTL := hid htl
  clear hok htl hkr
  go_enter Try.func11, Try.ntmps11
  go_wp2_with fail
  refine HK.out.mono ?_
  rintro e w1 ⟨a1, n1, c1, rfl, hl, hb1⟩
  have HL := hid hl
  have HN := hid hl.1
  have HB1 := hid hb1
  have hn1 : n1 ≤ 1000000 := by have := hl.1; omega
  clear hl hb1 HK
  go_wp2_with fail
  go_loopg [3, 9] n1 (fun kx s3 s9 wr => ∃ i : Nat, s3 = .int .i64 (countR (k.take i)) ∧ s9 = .int .i64 i ∧ i ≤ n1 ∧ n1 - i ≤ kx ∧ Hid (Below w.heap.size w wr) ∧ Hid (Below w1.heap.size w1 wr))
  case atStart => exact ⟨0, rfl, rfl, Nat.zero_le _, by omega, HB1.out, Below.refl _ _⟩
  case round =>
    obtain ⟨i, rfl, rfl, hi, hg, HB, HW⟩ := hrel
    by_cases hlt : i < n1
    · have hlt' : (i : Int) < (n1 : Int) := by omega
      have hil : i < k.length := by have := HN.out; omega
      obtain ⟨b, off, rfl, hbl, x0, x1⟩ := (HL.out.below HW.out (Nat.le_refl _)).at hil
      have hct := countR_take hil
      obtain ⟨o1, o2, o3⟩ := HOK.out _ (List.getElem_mem hil)
      have t0 := HTL.out i
      have t1 := HTL.out (i + 1)
      generalize k[i] = x at *
      obtain ⟨lo, hi2⟩ := x
      simp only at x0 x1 o1 o2 o3 hct
      rw [hct] at t1
      have HCT := hid hct
      clear hct
      generalize countR (k.take i) = q at *
      have e1 : IntKind.i32.wrap (hi2 - lo) = hi2 - lo := wrap32 (by omega) (by omega)
      have e2 : IntKind.i64.wrap (hi2 - lo) = hi2 - lo := IntWalk.i64_in _ (by omega)
      have e3 : IntKind.i64.wrap (hi2 - lo + 1) = hi2 - lo + 1 := IntWalk.i64_in _ (by omega)
      have e4 : IntKind.i64.wrap (q + (hi2 - lo + 1)) = q + (hi2 - lo + 1) := IntWalk.i64_in _ (by omega)
      have hbs := HB.out.size
      have hws := HW.out.size
      have HB2 := hid (fun t => HB.out.alloc hbs (.cells #[.int .i32 lo, .int .i32 hi2] t))
      have HW2 := hid (fun t => HW.out.alloc hws (.cells #[.int .i32 lo, .int .i32 hi2] t))
      clear hbs hws
      go_wp2_with fail
      go_roundg (n1 - (i + 1))
      case measure => omega
      case rel => exact ⟨i + 1, by rw [HCT.out]; try rfl, by go_num, by omega, Nat.le_refl _, HB2.out _, HW2.out _⟩
    · have hlt' : ¬ (i : Int) < (n1 : Int) := by omega
      have ht : k.take i = k := List.take_of_length_le (by have := HN.out; omega)
      rw [ht]
      clear hi hg hlt
      go_wp2_with fail
      go_ret
      exact ⟨rfl, HB.out⟩

/-- Are two lists one. -/
def sameB (l k : List Rg) : Bool := decide (l = k)
theorem RR.get {w : World} {b off n cap : Nat} {l : List Rg} (h : RR w (some ⟨b, off, none⟩) n cap l) {i : Nat} (hi : i < l.length) : w.cell? ⟨b, off + i * 2, none⟩ = some (.int .i32 l[i].1) ∧ w.cell? ⟨b, off + i * 2 + 1, none⟩ = some (.int .i32 l[i].2) := by
  obtain ⟨b', off', e, _, h1, h2⟩ := h.at hi
  injection e with e
  injection e with e1 e2 _
  subst e1 e2
  exact ⟨h1, h2⟩
set_option maxRecDepth 100000 in
set_option maxHeartbeats 4000000 in
theorem is_any (a1 : Option Addr) (n1 c1 : Nat) (l : List Rg) (a2 : Option Addr) (n2 c2 : Nat) (k : List Rg) (w : World) (h1 : RR w a1 n1 c1 l) (h2 : RR w a2 n2 c2 k) (hn : n2 ≤ 1000000) :
    Calls Try.prog 8 #[.slice a1 n1 c1, .slice a2 n2 c2] w fun e w' => e = .returned (.bool (sameB l k)) ∧ Below w.heap.size w w' := by
  have H1 := hid h1
  have H2 := hid h2
  have hl1 := h1.1
  have hl2 := h2.1
  clear h1 h2
  by_cases hlen : n1 = n2
  · subst hlen
    have HL1 := hid hl1
    have HL2 := hid hl2
    clear hl1 hl2
    go_enter Try.func8, Try.ntmps8
    go_wp2_with fail
    go_loopg [5] n1 (fun kx s5 wr => ∃ i : Nat, s5 = .int .i64 i ∧ i ≤ n1 ∧ n1 - i ≤ kx ∧ Hid (Below w.heap.size w wr) ∧ Hid (l.take i = k.take i))
    case atStart => exact ⟨0, rfl, Nat.zero_le _, by omega, Below.refl _ _, rfl⟩
    case round =>
      obtain ⟨i, rfl, hi, hg, HB, HT⟩ := hrel
      by_cases hlt : i < n1
      · have hlt' : (i : Int) < (n1 : Int) := by omega
        have hil : i < l.length := by have := HL1.out; omega
        have hik : i < k.length := by have := HL2.out; omega
        obtain ⟨b, off, rfl, hbl, x0, x1⟩ := (H1.out.below HB.out (Nat.le_refl _)).at hil
        obtain ⟨b', off', rfl, hbl', y0, y1⟩ := (H2.out.below HB.out (Nat.le_refl _)).at hik
        have hne : l[i] ≠ k[i] → sameB l k = false := fun h => decide_eq_false fun e => by subst e; exact h rfl
        have hnx : l[i] = k[i] → l.take (i + 1) = k.take (i + 1) := fun h => by
          rw [List.take_add_one, List.take_add_one, List.getElem?_eq_getElem hil, List.getElem?_eq_getElem hik, HT.out, h]
        generalize l[i] = x at *
        generalize k[i] = y at *
        obtain ⟨p0, p1⟩ := x
        obtain ⟨q0, q1⟩ := y
        simp only at x0 x1 y0 y1
        have HNE := hid hne
        have HNX := hid hnx
        have HBD := hid (fun (m : Nat) => HB.out.trans (below_drewN w.heap.size wr m))
        clear hne hnx
        by_cases h0 : p0 = q0
        · subst h0
          have hz : (p0 != p0) = false := by simp
          by_cases h1 : p1 = q1
          · subst h1
            have HN2 := hid (HNX.out rfl)
            have hz1 : (p1 != p1) = false := by simp
            go_wp2_with fail
            go_quiet (fail)
            go_wp2_with fail
            go_roundg (n1 - (i + 1))
            case measure => omega
            case rel => exact ⟨i + 1, by go_num, by omega, Nat.le_refl _, HBD.out _, HN2⟩
          · have HF := hid (HNE.out fun e => h1 (congrArg Prod.snd e))
            have hz1 : (p1 != q1) = true := by simpa using h1
            clear h1
            go_wp2_with fail
            go_quiet (fail)
            go_wp2_with fail
            go_ret
            exact ⟨ret_bool HF.out.symm, HBD.out _⟩
        · have HF := hid (HNE.out fun e => h0 (congrArg Prod.fst e))
          have hz : (p0 != q0) = true := by simpa using h0
          clear h0
          go_wp2_with fail
          go_quiet (fail)
          go_wp2_with fail
          go_ret
          exact ⟨ret_bool HF.out.symm, HBD.out _⟩
      · have hlt' : ¬ (i : Int) < (n1 : Int) := by omega
        have HF := hid (show sameB l k = true from decide_eq_true (by
          have := HT.out
          rwa [List.take_of_length_le (by have := HL1.out; omega), List.take_of_length_le (by have := HL2.out; omega)] at this))
        clear hi hg hlt
        go_wp2_with fail
        go_ret
        exact ⟨ret_bool HF.out.symm, HB.out⟩
  · have HF := hid (show sameB l k = false from decide_eq_false fun e => hlen (by rw [hl1, hl2, e]))
    have hne : ¬ (n1 : Int) = (n2 : Int) := by omega
    clear hl1 hl2 hlen
    go_enter Try.func8, Try.ntmps8
    go_wp2_with fail
    go_ret
    exact ⟨ret_bool HF.out.symm, Below.refl _ _⟩

end Go.Proofs.Ytbkjanlkklmleaa
