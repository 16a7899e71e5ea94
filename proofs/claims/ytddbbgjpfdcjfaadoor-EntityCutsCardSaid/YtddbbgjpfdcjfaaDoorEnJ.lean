/- strconv.ParseInt of digits that fit: walks. -/
import Derived.Test.YtddbbgjpfdcjfaaDoorEnI
namespace Go.Proofs.YtddbbgjpfdcjfaaDoor
open Go.RowKit
open Go.Shelf
open Go.Lib (hid)
set_option linter.unusedVariables false

theorem or_up : ∀ k : Fin 6, bits .or .u8 (65 + (k.val : Int)) 32 = 97 + (k.val : Int) := by decide
theorem or_low : ∀ k : Fin 6, bits .or .u8 (97 + (k.val : Int)) 32 = 97 + (k.val : Int) := by decide
theorem lower_any (c d : Int) (h : bits .or .u8 c 32 = d) (w : World) : Calls Tryd.prog 58 #[.int .u8 c] w fun e w' => e = .returned (.int .u8 d) ∧ w' = w := by
  go_enter Tryd.func58, Tryd.ntmps58
  go_wp2_with fail
  go_ret
  exact ⟨rfl, rfl⟩
theorem dig_cases {base : Nat} {c : Int} (hb : base = 10 ∨ base = 16) (h : pOf base c = true) : (48 ≤ c ∧ c ≤ 57 ∧ digV c = c - 48) ∨ (57 < c ∧ 97 ≤ c ∧ c ≤ 102 ∧ base = 16 ∧ digV c = c - 87 ∧ bits .or .u8 c 32 = c) ∨ (57 < c ∧ 65 ≤ c ∧ c ≤ 70 ∧ base = 16 ∧ digV c = c - 55 ∧ bits .or .u8 c 32 = c + 32) := by
  cases hd : decP c
  · right
    have h16 : base = 16 := by
      rcases hb with rfl | rfl
      · change decP c = true at h
        rw [h] at hd; cases hd
      · rfl
    subst h16
    have hx : hexP c = true := h
    unfold hexP at hx
    rw [hd, Bool.false_or, Bool.or_eq_true, decide_eq_true_iff, decide_eq_true_iff] at hx
    rcases hx with ⟨h1, h2⟩ | ⟨h1, h2⟩
    · left
      refine ⟨by omega, h1, h2, rfl, by unfold digV; rw [hd, if_neg (by decide), if_pos h1], ?_⟩
      have := or_low ⟨(c - 97).toNat, by omega⟩
      simp only at this
      rwa [show (97 : Int) + ((c - 97).toNat : Int) = c by omega] at this
    · right
      refine ⟨by omega, h1, h2, rfl, by unfold digV; rw [hd, if_neg (by decide), if_neg (by omega)], ?_⟩
      have := or_up ⟨(c - 65).toNat, by omega⟩
      simp only at this
      rw [show (65 : Int) + ((c - 65).toNat : Int) = c by omega] at this
      rw [this]
      omega
  · left
    have := of_decide_eq_true hd
    exact ⟨this.1, this.2, by unfold digV; rw [if_pos hd]⟩

set_option maxRecDepth 100000 in
set_option maxHeartbeats 8000000 in
theorem parseUint_any (base : Nat) (hb : base = 10 ∨ base = 16) (s : ByteArray) (h0 : 0 < s.size) (h7 : s.size ≤ 7) (hall : ∀ i, i < s.size → pOf base (byt s i) = true) (w : World) :
    Calls Tryd.prog 48 #[.string s, .int .i64 base, .int .i64 32] w fun e w' => e = .returned (.tuple #[.int .u64 (numL base (intsOf s)), .nilIface]) ∧ Below w.heap.size w w' := by
  have hne : ¬ s = ByteArray.empty := fun e => by rw [e] at h0; exact absurd h0 (by decide)
  have hne2 : ¬ s.toList = [] := fun e => hne (str_toList_inj.1 (by rw [e, Lib.toList_data]; rfl))
  have hne3 : s.toList.isEmpty = false := by simpa using hne2
  have hne4 : (s.toList == []) = false := by simpa using hne2
  have hcv := Lib.run_convert_string_bytes (P := Tryd.prog) w 9 22 5 s Tryd.underlying9 Tryd.underlying22 Tryd.underlying5
  have hby := bytesWorld_new w 5 s
  have hbe := bytesWorld_below w 5 s
  have hcs := fun c => dig_cases (c := c) hb
  have hstep := fun l c => numL_snoc (base : Int) l c
  have hzero : numL (base : Int) [] = 0 := rfl
  generalize numL (base : Int) = N at *
  generalize pOf base = P at *
  have HSTEP := hid hstep
  have HZERO := hid hzero
  have HALL := hid hall
  have HCS := hid hcs
  have HBY := hid hby
  have HBE := hid hbe
  clear hall hcs hstep hzero hby hbe
  go_enter Tryd.func48, Tryd.ntmps48
  rcases hb with rfl | rfl
  all_goals
    try rw [show ((10 : Nat) : Int) = 10 from rfl] at HSTEP
    try rw [show ((10 : Nat) : Int) = 10 from rfl]
    try rw [show ((16 : Nat) : Int) = 16 from rfl] at HSTEP
    try rw [show ((16 : Nat) : Int) = 16 from rfl]
    go_wp2_with fail
    clear hcv hne hne2 hne3 hne4
    generalize Lib.bytesWorld w 5 s = w1 at *
    generalize grownCap w s.size 0 5 = cp at *
    go_loopg [12, 13, 101] s.size (fun kx s12 s13 s101 wr => ∃ (i : Nat) (v : Int), s12 = .bool false ∧ s13 = .int .u64 v ∧ s101 = .int .i64 i ∧ i ≤ s.size ∧ s.size - i ≤ kx ∧ wr = w1 ∧ Hid (v = N ((intsOf s).take i)) ∧ Hid (0 ≤ v ∧ v < 16 ^ i))
    case atStart => exact ⟨0, 0, rfl, rfl, rfl, Nat.zero_le _, by omega, rfl, HZERO.out.symm, ⟨by decide, by decide⟩⟩
    case round =>
      obtain ⟨i, v, rfl, rfl, rfl, hi, hg, hw, HV, HVB⟩ := hrel
      obtain rfl : w1 = wr := hw.symm
      by_cases hlt : i < s.size
      · have hlt' : (i : Int) < (s.size : Int) := by omega
        have hcell := bytes_cell HBY.out hlt
        rw [Nat.zero_add] at hcell
        have htk := ints_take hlt
        have hst := HSTEP.out ((intsOf s).take i) (byt s i)
        rw [← htk, ← HV.out] at hst
        have hcc := HCS.out (byt s i) (HALL.out i hlt)
        have hv0 := HVB.out.1
        have hv1 : v < 268435456 := by have := HVB.out.2; have := pow_small i (by omega); omega
        have HP16 := hid (show (16 : Int) ^ (i + 1) = 16 ^ i * 16 from Int.pow_succ 16 i)
        have hd16 : 0 ≤ digV (byt s i) ∧ digV (byt s i) < 16 := by
          rcases hcc with ⟨a1, a2, a3⟩ | ⟨a0, a1, a2, _, a3, _⟩ | ⟨a0, a1, a2, _, a3, _⟩ <;> omega
        generalize byt s i = c at *
        generalize digV c = d at *
        have HST := hid hst
        have HD16 := hid hd16
        clear htk hst hd16
        have hnb : (c == 95) = false := by rw [beq_eq_false_iff_ne]; omega
        rcases hcc with ⟨a1, a2, a3⟩ | ⟨a0, a1, a2, ha, a3, a4⟩ | ⟨a0, a1, a2, ha, a3, a4⟩
        · subst a3
          go_upto_region 52 with fail
          generalize hm : v * _ = m
          generalize hq : m + (c - 48) = q
          have hq1 : ¬ q < m := by omega
          have hq2 : ¬ 4294967295 < q := by omega
          have HFI := hid (show q = N (List.take (i + 1) (intsOf s)) by rw [HST.out, ← hq, ← hm, Int.mul_comm])
          have HFB := hid (show 0 ≤ q ∧ q < 16 ^ (i + 1) by rw [HP16.out]; have := HVB.out.2; constructor <;> omega)
          clear hm hq hv0 hv1 a1 a2 hnb hcell
          go_wp2_with fail
          go_roundg (s.size - (i + 1))
          case measure => omega
          case rel => exact ⟨i + 1, _, rfl, rfl, by go_num, by omega, Nat.le_refl _, rfl, HFI, HFB⟩
        · first
          | (exact absurd ha (by decide))
          | (clear ha
             subst a3
             have HL := hid (fun W => lower_any c c a4 W)
             have a5 : ¬ c ≤ 57 := by omega
             have a6 : c ≤ 122 := by omega
             have a7 : IntKind.u8.wrap (c - 97) = c - 97 := wraps_u8 _ (by omega) (by omega)
             have a8 : IntKind.u8.wrap (c - 97 + 10) = c - 87 := by rw [show c - 97 + 10 = c - 87 by omega]; exact wraps_u8 _ (by omega) (by omega)
             clear a4
             go_upto_region 52 with (go_at_call 58; refine (HL.out _).mono ?_; rintro e w2 ⟨rfl, hw2⟩; obtain rfl : w1 = w2 := hw2.symm)
             generalize hm : v * 16 = m
             generalize hq : m + (c - 87) = q
             have hq1 : ¬ q < m := by omega
             have hq2 : ¬ 4294967295 < q := by omega
             have HFI := hid (show q = N (List.take (i + 1) (intsOf s)) by rw [HST.out, ← hq, ← hm, Int.mul_comm])
             have HFB := hid (show 0 ≤ q ∧ q < 16 ^ (i + 1) by rw [HP16.out]; have := HVB.out.2; constructor <;> omega)
             clear hm hq hv0 hv1 a1 a2 hnb hcell a0 a5 a6 a7 a8
             go_wp2_with fail
             go_roundg (s.size - (i + 1))
             case measure => omega
             case rel => exact ⟨i + 1, _, rfl, rfl, by go_num, by omega, Nat.le_refl _, rfl, HFI, HFB⟩)
        · first
          | (exact absurd ha (by decide))
          | (clear ha
             subst a3
             have HL := hid (fun W => lower_any c (c + 32) a4 W)
             have a5 : ¬ c ≤ 57 := by omega
             have a6 : c + 32 ≤ 122 := by omega
             have a9 : 97 ≤ c + 32 := by omega
             have a7 : IntKind.u8.wrap (c + 32 - 97) = c - 65 := by rw [show c + 32 - 97 = c - 65 by omega]; exact wraps_u8 _ (by omega) (by omega)
             have a8 : IntKind.u8.wrap (c - 65 + 10) = c - 55 := by rw [show c - 65 + 10 = c - 55 by omega]; exact wraps_u8 _ (by omega) (by omega)
             clear a4
             go_upto_region 52 with (go_at_call 58; refine (HL.out _).mono ?_; rintro e w2 ⟨rfl, hw2⟩; obtain rfl : w1 = w2 := hw2.symm)
             generalize hm : v * 16 = m
             generalize hq : m + (c - 55) = q
             have hq1 : ¬ q < m := by omega
             have hq2 : ¬ 4294967295 < q := by omega
             have HFI := hid (show q = N (List.take (i + 1) (intsOf s)) by rw [HST.out, ← hq, ← hm, Int.mul_comm])
             have HFB := hid (show 0 ≤ q ∧ q < 16 ^ (i + 1) by rw [HP16.out]; have := HVB.out.2; constructor <;> omega)
             clear hm hq hv0 hv1 a1 a2 hnb hcell a0 a5 a6 a7 a8
             go_wp2_with fail
             go_roundg (s.size - (i + 1))
             case measure => omega
             case rel => exact ⟨i + 1, _, rfl, rfl, by go_num, by omega, Nat.le_refl _, rfl, HFI, HFB⟩)
      · have hlt' : ¬ (i : Int) < (s.size : Int) := by omega
        have hta : (intsOf s).take i = intsOf s := List.take_of_length_le (by rw [intsOf_len]; omega)
        have hv := HV.out
        rw [hta] at hv
        have HVV := hid hv
        clear hta hv hlt hg
        go_wp2_with fail
        go_ret2
        rw [← HVV.out]
        exact ⟨rfl, HBE.out⟩
end Go.Proofs.YtddbbgjpfdcjfaaDoor
