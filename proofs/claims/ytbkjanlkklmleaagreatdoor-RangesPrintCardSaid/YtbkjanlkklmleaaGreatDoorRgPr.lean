/- Chapter 02: the document's Print: the walk. -/
import Derived.Test.YtbkjanlkklmleaaGreatDoorRgHx
namespace Go.Proofs.YtbkjanlkklmleaaGreatDoor
open Go.RowKit
open Go.Lib (hid)
set_option linter.unusedVariables false
set_option maxRecDepth 100000

def accP : List Rg → List UInt8
  | [] => []
  | x :: l => itemD x ++ tailD l
theorem accP_one (x : Rg) : accP [x] = itemD x := by show itemD x ++ [] = _; rw [List.append_nil]
theorem accP_snoc {l : List Rg} (h : l ≠ []) (x : Rg) : accP (l ++ [x]) = accP l ++ [44] ++ itemD x := by
  cases l with
  | nil => exact absurd rfl h
  | cons y l =>
    show itemD y ++ tailD (l ++ [x]) = itemD y ++ tailD l ++ [44] ++ itemD x
    rw [tailD_append]
    show itemD y ++ (tailD l ++ (44 :: (itemD x ++ []))) = _
    rw [List.append_nil]
    simp
theorem accP_len {l : List Rg} (h : ∀ x ∈ l, okR x) : (accP l).length ≤ l.length * 14 := by
  cases l with
  | nil => exact Nat.le_refl _
  | cons x l =>
    have h1 := (itemD_len (h x (List.mem_cons_self ..))).2
    have h2 := tailD_len l fun y hy => h y (List.mem_cons_of_mem _ hy)
    show (itemD x ++ tailD l).length ≤ _
    rw [List.length_append, List.length_cons]
    omega
theorem printD_acc {l : List Rg} (h : l ≠ []) : printD l = accP l := by
  cases l with
  | nil => exact absurd rfl h
  | cons y l => rfl
theorem mkB_add (l k : List UInt8) : mkB (l ++ k) = mkB l ++ mkB k := (mkB_append l k).symm
theorem refhex_int (z : Int) (h0 : 0 ≤ z) (h1 : z ≤ 1114111) (w : World) : Calls Tryz.prog 21 #[.int .i32 z] w fun e w' => e = .returned (.string (mkB (hex4D z.toNat))) ∧ w' = w := by
  have := refhex_any z.toNat (by omega) w
  rwa [Int.toNat_of_nonneg h0] at this
set_option maxHeartbeats 4000000 in
theorem refprint_any (a : Option Addr) (n cap : Nat) (l : List Rg) (w : World) (hl : RR w a n cap l) (hn : n ≤ 1000000) (hok : ∀ x ∈ l, okR x) :
    Calls Tryz.prog 9 #[.slice a n cap] w fun e w' => e = .returned (.string (mkB (printD l))) ∧ Below w.heap.size w w' := by
  have HL := hid hl
  have HN := hid hl.1
  have HOK := hid hok
  clear hl hok
  by_cases hn0 : n = 0
  · subst hn0
    have HE := hid (show l = [] from List.eq_nil_of_length_eq_zero HN.out.symm)
    go_enter Tryz.func9, Tryz.ntmps9
    go_wp2_with fail
    go_ret
    rw [HE.out]
    exact ⟨rfl, Below.refl _ _⟩
  have hn1 : ¬ (n : Int) = 0 := by omega
  have hnb : ((n : Int) == 0) = false := by simpa using hn1
  have HN0 := hid (show l ≠ [] from fun e => hn0 (by rw [HN.out, e]; rfl))
  clear hn0
  go_enter Tryz.func9, Tryz.ntmps9
  go_wp2_with fail
  go_loopg [3, 4] n (fun kx s3 s4 wr => ∃ (i : Nat) (s : ByteArray), s3 = .string s ∧ s4 = .int .i64 i ∧ i ≤ n ∧ n - i ≤ kx ∧ s.size ≤ i * 14 ∧ Hid (Below w.heap.size w wr) ∧ Hid (s = mkB (accP (l.take i))))
  case atStart => exact ⟨0, ⟨#[]⟩, rfl, rfl, Nat.zero_le _, by omega, Nat.zero_le _, Below.refl _ _, rfl⟩
  case round =>
    obtain ⟨i, s, rfl, rfl, hi, hg, hs, HB, HS⟩ := hrel
    by_cases hlt : i < n
    · have hlt' : (i : Int) < (n : Int) := by omega
      have hil : i < l.length := by have := HN.out; omega
      obtain ⟨b, off, rfl, hbl, x0, x1⟩ := (HL.out.below HB.out (Nat.le_refl _)).at hil
      obtain ⟨o1, o2, o3⟩ := HOK.out _ (List.getElem_mem hil)
      have htk : l.take (i + 1) = l.take i ++ [l[i]] := by rw [List.take_add_one, List.getElem?_eq_getElem hil]; rfl
      have hln := accP_len (l := l.take (i + 1)) (fun x hx => HOK.out x (List.mem_of_mem_take hx))
      rw [List.length_take_of_le (by omega)] at hln
      generalize l[i] = x at *
      obtain ⟨lo, hi2⟩ := x
      simp only at x0 x1 o1 o2 o3
      have HTK := hid htk
      have HLN := hid hln
      have hh1 := fun W => refhex_int lo (by omega) (by omega) W
      have hh2 := fun W => refhex_int hi2 (by omega) (by omega) W
      have h41 := hex4D_len lo.toNat (by omega)
      have h42 := hex4D_len hi2.toNat (by omega)
      have hit : itemD (lo, hi2) = hex4D lo.toNat ++ (if lo = hi2 then [] else 45 :: hex4D hi2.toNat) := rfl
      obtain ⟨p, hp⟩ : ∃ p, p = mkB (hex4D lo.toNat) := ⟨_, rfl⟩
      obtain ⟨q, hq⟩ : ∃ q, q = mkB (hex4D hi2.toNat) := ⟨_, rfl⟩
      rw [← hp] at hh1
      rw [← hq] at hh2
      have hps : p.size ≤ 6 := by rw [hp, mkB_size]; exact h41
      have hqs : q.size ≤ 6 := by rw [hq, mkB_size]; exact h42
      have HP := hid hp
      have HQ := hid hq
      have HH1 := hid hh1
      have HH2 := hid hh2
      have HIT := hid hit
      clear htk hln hh1 hh2 hit hp hq h41 h42
      by_cases hi0 : i = 0
      · have HI0 := hid hi0
        clear hi0
        by_cases hq : lo = hi2
        · have HQE := hid hq
          clear hq
          have HT := hid (show accP (l.take (i + 1)) = itemD (lo, hi2) by rw [HTK.out, show l.take i = [] by rw [HI0.out]; rfl]; exact accP_one _)
          have HSE := hid (show s.size = 0 by rw [HS.out, HI0.out]; rfl)
          have HS0 := hid (show s = mkB [] by rw [HS.out, HI0.out]; rfl)
          obtain rfl : i = 0 := HI0.out
          simp only [Nat.zero_mul, Nat.add_zero] at x0 x1
          have hne : (hi2 != lo) = false := by simp [HQE.out]
          have hc0a : ¬ (s.size + p.size > 9223372036854775807) := by omega
          have hc0b : ¬ (9223372036854775807 < s.size + p.size) := by omega
          go_wp2_with (go_at_call 21; refine (HH1.out _).mono ?_; rintro e w2 ⟨rfl, hw2⟩; obtain rfl : wr = w2 := hw2.symm)
          go_quiet (fail)
          go_wp2_with (go_at_call 21; refine (HH2.out _).mono ?_; rintro e w2 ⟨rfl, hw2⟩; subst hw2)
          go_roundg (n - (0 + 1))
          case measure => omega
          case rel => exact ⟨0 + 1, s ++ p, rfl, by go_num, by omega, Nat.le_refl _, (by show ByteArray.size _ ≤ _; have := HSE.out; (repeat rw [ByteArray.size_append]); show s.size + p.size ≤ _; omega), HB.out.trans (below_drewN _ _ _), (by rw [HT.out, HIT.out, if_pos HQE.out, List.append_nil, HS0.out, HP.out]; rw [mkB_append]; rfl)⟩
        · have HQE := hid hq
          clear hq
          have HT := hid (show accP (l.take (i + 1)) = itemD (lo, hi2) by rw [HTK.out, show l.take i = [] by rw [HI0.out]; rfl]; exact accP_one _)
          have HSE := hid (show s.size = 0 by rw [HS.out, HI0.out]; rfl)
          have HS0 := hid (show s = mkB [] by rw [HS.out, HI0.out]; rfl)
          obtain rfl : i = 0 := HI0.out
          simp only [Nat.zero_mul, Nat.add_zero] at x0 x1
          have hne : (hi2 != lo) = true := by have := HQE.out; simp; omega
          have hc0a : ¬ (s.size + p.size > 9223372036854775807) := by omega
          have hc0b : ¬ (9223372036854775807 < s.size + p.size) := by omega
          have hc1a : ¬ (s.size + p.size + 1 > 9223372036854775807) := by omega
          have hc1b : ¬ (9223372036854775807 < s.size + p.size + 1) := by omega
          have hc1c : ¬ ((s ++ p).size + 1 > 9223372036854775807) := by
            repeat (rw [ByteArray.size_append])
            show ¬ (s.size + p.size + 1 > _)
            omega
          have hc1d : ¬ (9223372036854775807 < (s ++ p).size + 1) := by
            repeat (rw [ByteArray.size_append])
            show ¬ (_ < s.size + p.size + 1)
            omega
          have hc2a : ¬ (s.size + p.size + 1 + q.size > 9223372036854775807) := by omega
          have hc2b : ¬ (9223372036854775807 < s.size + p.size + 1 + q.size) := by omega
          have hc2c : ¬ (((s ++ p) ++ ⟨#[45]⟩).size + q.size > 9223372036854775807) := by
            repeat (rw [ByteArray.size_append])
            show ¬ (s.size + p.size + 1 + q.size > _)
            omega
          have hc2d : ¬ (9223372036854775807 < ((s ++ p) ++ ⟨#[45]⟩).size + q.size) := by
            repeat (rw [ByteArray.size_append])
            show ¬ (_ < s.size + p.size + 1 + q.size)
            omega
          go_wp2_with (go_at_call 21; refine (HH1.out _).mono ?_; rintro e w2 ⟨rfl, hw2⟩; obtain rfl : wr = w2 := hw2.symm)
          go_quiet (fail)
          go_wp2_with (go_at_call 21; refine (HH2.out _).mono ?_; rintro e w2 ⟨rfl, hw2⟩; subst hw2)
          go_roundg (n - (0 + 1))
          case measure => omega
          case rel => exact ⟨0 + 1, s ++ p ++ ⟨#[45]⟩ ++ q, rfl, by go_num, by omega, Nat.le_refl _, (by show ByteArray.size _ ≤ _; have := HSE.out; (repeat rw [ByteArray.size_append]); show s.size + p.size + 1 + q.size ≤ _; omega), HB.out.trans (below_drewN _ _ _), (by rw [HT.out, HIT.out, if_neg HQE.out, show (45 :: hex4D hi2.toNat : List UInt8) = [45] ++ hex4D hi2.toNat from rfl, ← List.append_assoc, mkB_add, mkB_add, HS0.out, HP.out, HQ.out]; rw [mkB_append]; rfl)⟩
      · have HI0 := hid hi0
        clear hi0
        by_cases hq : lo = hi2
        · have HQE := hid hq
          clear hq
          have HT := hid (show accP (l.take (i + 1)) = accP (l.take i) ++ [44] ++ itemD (lo, hi2) by rw [HTK.out]; exact accP_snoc (fun e => by have := congrArg List.length e; rw [List.length_take_of_le (by omega)] at this; exact HI0.out this) _)
          have hi0 : (0 : Int) < (i : Int) := by have := HI0.out; omega
          have hne : (hi2 != lo) = false := by simp [HQE.out]
          have hc0a : ¬ (s.size + 1 > 9223372036854775807) := by omega
          have hc0b : ¬ (9223372036854775807 < s.size + 1) := by omega
          have hc1a : ¬ (s.size + 1 + p.size > 9223372036854775807) := by omega
          have hc1b : ¬ (9223372036854775807 < s.size + 1 + p.size) := by omega
          have hc1c : ¬ ((s ++ ⟨#[44]⟩).size + p.size > 9223372036854775807) := by
            repeat (rw [ByteArray.size_append])
            show ¬ (s.size + 1 + p.size > _)
            omega
          have hc1d : ¬ (9223372036854775807 < (s ++ ⟨#[44]⟩).size + p.size) := by
            repeat (rw [ByteArray.size_append])
            show ¬ (_ < s.size + 1 + p.size)
            omega
          go_wp2_with (go_at_call 21; refine (HH1.out _).mono ?_; rintro e w2 ⟨rfl, hw2⟩; obtain rfl : wr = w2 := hw2.symm)
          go_quiet (fail)
          go_wp2_with (go_at_call 21; refine (HH2.out _).mono ?_; rintro e w2 ⟨rfl, hw2⟩; subst hw2)
          go_roundg (n - (i + 1))
          case measure => omega
          case rel => exact ⟨i + 1, (s ++ ⟨#[44]⟩) ++ p, rfl, by go_num, by omega, Nat.le_refl _, (by show ByteArray.size _ ≤ _; (repeat rw [ByteArray.size_append]); show s.size + 1 + p.size ≤ _; omega), HB.out.trans (below_drewN _ _ _), (by rw [HT.out, HIT.out, if_pos HQE.out, List.append_nil, mkB_add, mkB_add, HP.out, HS.out]; rfl)⟩
        · have HQE := hid hq
          clear hq
          have HT := hid (show accP (l.take (i + 1)) = accP (l.take i) ++ [44] ++ itemD (lo, hi2) by rw [HTK.out]; exact accP_snoc (fun e => by have := congrArg List.length e; rw [List.length_take_of_le (by omega)] at this; exact HI0.out this) _)
          have hi0 : (0 : Int) < (i : Int) := by have := HI0.out; omega
          have hne : (hi2 != lo) = true := by have := HQE.out; simp; omega
          have hc0a : ¬ (s.size + 1 > 9223372036854775807) := by omega
          have hc0b : ¬ (9223372036854775807 < s.size + 1) := by omega
          have hc1a : ¬ (s.size + 1 + p.size > 9223372036854775807) := by omega
          have hc1b : ¬ (9223372036854775807 < s.size + 1 + p.size) := by omega
          have hc1c : ¬ ((s ++ ⟨#[44]⟩).size + p.size > 9223372036854775807) := by
            repeat (rw [ByteArray.size_append])
            show ¬ (s.size + 1 + p.size > _)
            omega
          have hc1d : ¬ (9223372036854775807 < (s ++ ⟨#[44]⟩).size + p.size) := by
            repeat (rw [ByteArray.size_append])
            show ¬ (_ < s.size + 1 + p.size)
            omega
          have hc2a : ¬ (s.size + 1 + p.size + 1 > 9223372036854775807) := by omega
          have hc2b : ¬ (9223372036854775807 < s.size + 1 + p.size + 1) := by omega
          have hc2c : ¬ (((s ++ ⟨#[44]⟩) ++ p).size + 1 > 9223372036854775807) := by
            repeat (rw [ByteArray.size_append])
            show ¬ (s.size + 1 + p.size + 1 > _)
            omega
          have hc2d : ¬ (9223372036854775807 < ((s ++ ⟨#[44]⟩) ++ p).size + 1) := by
            repeat (rw [ByteArray.size_append])
            show ¬ (_ < s.size + 1 + p.size + 1)
            omega
          have hc3a : ¬ (s.size + 1 + p.size + 1 + q.size > 9223372036854775807) := by omega
          have hc3b : ¬ (9223372036854775807 < s.size + 1 + p.size + 1 + q.size) := by omega
          have hc3c : ¬ ((((s ++ ⟨#[44]⟩) ++ p) ++ ⟨#[45]⟩).size + q.size > 9223372036854775807) := by
            repeat (rw [ByteArray.size_append])
            show ¬ (s.size + 1 + p.size + 1 + q.size > _)
            omega
          have hc3d : ¬ (9223372036854775807 < (((s ++ ⟨#[44]⟩) ++ p) ++ ⟨#[45]⟩).size + q.size) := by
            repeat (rw [ByteArray.size_append])
            show ¬ (_ < s.size + 1 + p.size + 1 + q.size)
            omega
          go_wp2_with (go_at_call 21; refine (HH1.out _).mono ?_; rintro e w2 ⟨rfl, hw2⟩; obtain rfl : wr = w2 := hw2.symm)
          go_quiet (fail)
          go_wp2_with (go_at_call 21; refine (HH2.out _).mono ?_; rintro e w2 ⟨rfl, hw2⟩; subst hw2)
          go_roundg (n - (i + 1))
          case measure => omega
          case rel => exact ⟨i + 1, (s ++ ⟨#[44]⟩) ++ p ++ ⟨#[45]⟩ ++ q, rfl, by go_num, by omega, Nat.le_refl _, (by show ByteArray.size _ ≤ _; (repeat rw [ByteArray.size_append]); show s.size + 1 + p.size + 1 + q.size ≤ _; omega), HB.out.trans (below_drewN _ _ _), (by rw [HT.out, HIT.out, if_neg HQE.out, show (45 :: hex4D hi2.toNat : List UInt8) = [45] ++ hex4D hi2.toNat from rfl, ← List.append_assoc, ← List.append_assoc, mkB_add, mkB_add, mkB_add, mkB_add, HP.out, HQ.out, HS.out]; rfl)⟩
    · obtain rfl : i = n := by omega
      have ht : l.take i = l := List.take_of_length_le (by have := HN.out; omega)
      have HE := hid (show mkB (printD l) = s by rw [HS.out, ht, printD_acc HN0.out])
      clear ht
      go_wp2_with fail
      go_ret
      rw [HE.out]
      exact ⟨rfl, HB.out⟩
end Go.Proofs.YtbkjanlkklmleaaGreatDoor
