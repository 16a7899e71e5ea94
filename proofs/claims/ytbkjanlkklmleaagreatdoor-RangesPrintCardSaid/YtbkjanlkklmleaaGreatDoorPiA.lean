/- internal/strconv.ParseUint of any text, in sixteens: the walk. -/
import Derived.Test.YtbkjanlkklmleaaGreatDoorPiP
import Derived.Deep.CutBlock
import Derived.StillTailTactics
namespace Go.Proofs.YtbkjanlkklmleaaGreatDoor
open Go.RowKit
open Go.Shelf
open Go.Lib (hid)
set_option linter.unusedVariables false

/-- What an error of the inner reader is. -/
def ErE (v : Value) : Prop := v = .nilIface ∨ v = .iface 104 (.int .i64 1) ∨ v = .iface 104 (.int .i64 2)
def PuPost (s : ByteArray) (w : World) (e : Ending) (w' : World) : Prop :=
  ∃ (n : Int) (er : Value), e = .returned (.tuple #[.int .u64 n, er]) ∧ ErE er ∧ 0 ≤ n ∧ n ≤ 4294967295 ∧ (goodX s → er = .nilIface ∧ n = dxN (intsOf s)) ∧ Below w.heap.size w w'
theorem puPost_syn {s : ByteArray} {w w' : World} (h : ¬ goodX s) (hb : Below w.heap.size w w') : PuPost s w (.returned (.tuple #[.int .u64 0, .iface 104 (.int .i64 2)])) w' := ⟨0, _, rfl, .inr (.inr rfl), by decide, by decide, fun g => absurd g h, hb⟩
theorem puPost_rng {s : ByteArray} {w w' : World} (h : ¬ goodX s) (hb : Below w.heap.size w w') : PuPost s w (.returned (.tuple #[.int .u64 4294967295, .iface 104 (.int .i64 1)])) w' := ⟨_, _, rfl, .inr (.inl rfl), by decide, by decide, fun g => absurd g h, hb⟩
theorem lowX_any (c : Int) (w : World) : Calls Tryz.prog 91 #[.int .u8 c] w fun e w' => e = .returned (.int .u8 (lowC c)) ∧ w' = w := by
  obtain ⟨d, hd⟩ : ∃ d, d = lowC c := ⟨_, rfl⟩
  have h : bits .or .u8 c 32 = d := hd.symm
  rw [← hd]
  clear hd
  go_enter Tryz.func91, Tryz.ntmps91
  go_wp2_with fail
  go_ret
  exact ⟨rfl, rfl⟩
theorem wrapX {x : Int} (h : 0 ≤ x) (h2 : x ≤ 255) : IntKind.u8.wrap x = x := wraps_u8 _ h (by omega)

set_option maxRecDepth 100000 in
set_option maxHeartbeats 8000000 in
theorem parseUintX_any (s : ByteArray) (hs : s.size ≤ 100000) (w : World) : Calls Tryz.prog 69 #[.string s, .int .i64 16, .int .i64 32] w (PuPost s w) := by
  by_cases he : s = ByteArray.empty
  · subst he
    have h0 : ¬ goodX ByteArray.empty := fun h => absurd h.1 (by decide)
    have HP := hid (puPost_syn h0 (Below.refl w.heap.size w))
    have hne : (ByteArray.empty.toList == []) = true := by rw [Lib.toList_data]; rfl
    have hne2 : ByteArray.empty.toList = [] := by rw [Lib.toList_data]; rfl
    clear h0
    go_enter Tryz.func69, Tryz.ntmps69
    go_wp2_with fail
    go_ret2
    exact HP.out
  have h0 : 0 < s.size := by
    rcases Nat.eq_zero_or_pos s.size with h | h
    · exact absurd (ext_byt (y := ByteArray.empty) (by rw [h]; rfl) (fun i hi => by omega)) he
    · exact h
  have hne2 : ¬ s.toList = [] := fun e => he (str_toList_inj.1 (by rw [e, Lib.toList_data]; rfl))
  have hne3 : s.toList.isEmpty = false := by simpa using hne2
  have hne4 : (s.toList == []) = false := by simpa using hne2
  have hcv := Lib.run_convert_string_bytes (P := Tryz.prog) w 9 57 5 s Tryz.underlying9 Tryz.underlying57 Tryz.underlying5
  have hby := bytesWorld_new w 5 s
  have hbe := bytesWorld_below w 5 s
  have HBY := hid hby
  have HBE := hid hbe
  have HLO := hid (fun i => low_of (byt_nonneg s i))
  have HBN := hid (fun i => byt_nonneg s i)
  have hlw := fun (c : Int) (W : World) => lowX_any c W
  have HLW := hid hlw
  clear hby hbe hlw
  go_enter Tryz.func69, Tryz.ntmps69
  go_wp2_with fail
  clear hcv he hne2 hne3 hne4
  generalize Lib.bytesWorld w 5 s = w1 at *
  generalize grownCap w s.size 0 5 = cp at *
  go_loopg [12, 13, 101] s.size (fun kx s12 s13 s101 wr => ∃ (i : Nat) (v : Int), s12 = .bool false ∧ s13 = .int .u64 v ∧ s101 = .int .i64 i ∧ i ≤ s.size ∧ s.size - i ≤ kx ∧ wr = w1 ∧ 0 ≤ v ∧ v ≤ 4294967295 ∧ Hid (goodX s → v = dxN ((intsOf s).take i)))
  case atStart => exact ⟨0, 0, rfl, rfl, rfl, Nat.zero_le _, by omega, rfl, by decide, by decide, fun _ => rfl⟩
  case round =>
    obtain ⟨i, v, rfl, rfl, rfl, hi, hg, hw, hv0, hv1, HV⟩ := hrel
    obtain rfl : w1 = wr := hw.symm
    by_cases hlt : i < s.size
    · have hlt' : (i : Int) < (s.size : Int) := by omega
      have hcell := bytes_cell HBY.out hlt
      rw [Nat.zero_add] at hcell
      have HTK := hid (fun v (hv : v = dxN ((intsOf s).take i)) => show v * 16 + dxV (byt s i) = dxN ((intsOf s).take (i + 1)) by rw [intsX_take hlt, dxN_snoc, ← hv])
      have HGD := hid (fun (h : goodX s) => h.2.2 i hlt)
      have HSM := hid (fun (h : goodX s) => show dxN ((intsOf s).take (i + 1)) < 268435456 by
        have := dxN_rng (i + 1) s (by omega) (fun j hj => h.2.2 j (by omega))
        have := pow16_le7 (i + 1) (by have := h.2.1; omega)
        omega)
      obtain ⟨⟨l0, l1⟩, hl2, hl3, hl4⟩ := HLO.out i
      obtain ⟨c0, c1⟩ := HBN.out i
      generalize byt s i = c at *
      have HL2 := hid hl2
      have HL3 := hid hl3
      have HL4 := hid hl4
      clear hl2 hl3 hl4
      by_cases h48 : 48 ≤ c ∧ c ≤ 57
      · obtain ⟨a1, a2⟩ := h48
        have HDV := hid (HL4.out a1 a2).2
        have hnb : (c == 95) = false := by rw [beq_eq_false_iff_ne]; omega
        have a7 : IntKind.u8.wrap (c - 48) = c - 48 := wrapX (by omega) (by omega)
        clear l0 l1
        go_upto_region 52 with fail
        generalize hm : v * _ = m
        generalize hq : m + (c - 48) = q
        have hq1 : ¬ q < m := by omega
        by_cases hq2 : 4294967295 < q
        · have HNG := hid (show ¬ goodX s from fun g => by
            have e1 := HTK.out v (HV.out g)
            have e2 := HSM.out g
            rw [← e1, HDV.out] at e2
            omega)
          clear hm hq hcell
          go_wp2_with fail
          go_ret2
          exact puPost_rng HNG.out HBE.out
        · have HFI := hid (show goodX s → q = dxN ((intsOf s).take (i + 1)) from fun g => by
            rw [← HTK.out v (HV.out g), HDV.out, ← hq, ← hm])
          have hq0 : 0 ≤ q := by omega
          have hq3 : q ≤ 4294967295 := by omega
          clear hm hq hv0 hv1 a1 a2 hnb hcell a7
          go_wp2_with fail
          go_roundg (s.size - (i + 1))
          case measure => omega
          case rel => exact ⟨i + 1, _, rfl, rfl, by go_num, by omega, Nat.le_refl _, rfl, hq0, hq3, HFI⟩
      · have hnd : ¬ 48 ≤ c ∨ ¬ c ≤ 57 := by omega
        have hnd2 : ¬ (c ≤ 57 ∧ 48 ≤ c) := by omega
        by_cases hlet : 97 ≤ lowC c ∧ lowC c ≤ 102
        · obtain ⟨b1, b2⟩ := hlet
          have hdv := HL2.out hnd2 b1 b2
          have HDV := hid hdv.2
          have hnb : (c == 95) = false := by
            rw [beq_eq_false_iff_ne]
            rintro rfl
            exact absurd hdv.1 (by decide)
          have HLL := hid (fun W => HLW.out c W)
          generalize lowC c = L at *
          have b3 : L ≤ 122 := by omega
          have a7 : IntKind.u8.wrap (L - 97) = L - 97 := wrapX (by omega) (by omega)
          have a8 : IntKind.u8.wrap (L - 97 + 10) = L - 87 := by rw [show L - 97 + 10 = L - 87 by omega]; exact wrapX (by omega) (by omega)
          clear hdv hnd2
          rcases hnd with h1 | h1
          all_goals
            go_upto_region 52 with (go_at_call 91; refine (HLL.out _).mono ?_; rintro e w2 ⟨rfl, hw2⟩; obtain rfl : w1 = w2 := hw2.symm)
            generalize hm : v * _ = m
            generalize hq : m + (L - 87) = q
            have hq1 : ¬ q < m := by omega
            by_cases hq2 : 4294967295 < q
            · have HNG := hid (show ¬ goodX s from fun g => by
                have e1 := HTK.out v (HV.out g)
                have e2 := HSM.out g
                rw [← e1, HDV.out] at e2
                omega)
              clear hm hq hcell
              go_wp2_with fail
              go_ret2
              exact puPost_rng HNG.out HBE.out
            · have HFI := hid (show goodX s → q = dxN ((intsOf s).take (i + 1)) from fun g => by
                rw [← HTK.out v (HV.out g), HDV.out, ← hq, ← hm])
              have hq0 : 0 ≤ q := by omega
              have hq3 : q ≤ 4294967295 := by omega
              clear hm hq hv0 hv1 b1 b2 b3 hnb hcell a7 a8
              go_wp2_with fail
              go_roundg (s.size - (i + 1))
              case measure => omega
              case rel => exact ⟨i + 1, _, rfl, rfl, by go_num, by omega, Nat.le_refl _, rfl, hq0, hq3, HFI⟩
        · have HNG := hid (show ¬ goodX s from fun g => by
            have e1 := HGD.out g
            rw [HL3.out hnd2 hlet] at e1
            cases e1)
          have HLL := hid (fun W => HLW.out c W)
          clear hnd2
          generalize lowC c = L at *
          by_cases h97 : 97 ≤ L
          · by_cases h122 : L ≤ 122
            · have b4 : 103 ≤ L := by omega
              have a7 : IntKind.u8.wrap (L - 97) = L - 97 := wrapX (by omega) (by omega)
              have a8 : IntKind.u8.wrap (L - 97 + 10) = L - 87 := by rw [show L - 97 + 10 = L - 87 by omega]; exact wrapX (by omega) (by omega)
              have b5 : 16 ≤ L - 87 := by omega
              by_cases h95 : c = 95
              · subst h95
                rcases hnd with h1 | h1
                · exact absurd h1 (by decide)
                · go_wp2_with (go_at_call 91; refine (HLL.out _).mono ?_; rintro e w2 ⟨rfl, hw2⟩; obtain rfl : w1 = w2 := hw2.symm)
                  go_ret2
                  exact puPost_syn HNG.out HBE.out
              · have hnb : (c == 95) = false := by rw [beq_eq_false_iff_ne]; exact h95
                clear hlet
                rcases hnd with h1 | h1
                all_goals
                  go_wp2_with (go_at_call 91; refine (HLL.out _).mono ?_; rintro e w2 ⟨rfl, hw2⟩; obtain rfl : w1 = w2 := hw2.symm)
                  go_ret2
                  exact puPost_syn HNG.out HBE.out
            · clear hlet
              by_cases h95 : c = 95
              · subst h95
                rcases hnd with h1 | h1
                · exact absurd h1 (by decide)
                · go_wp2_with (go_at_call 91; refine (HLL.out _).mono ?_; rintro e w2 ⟨rfl, hw2⟩; obtain rfl : w1 = w2 := hw2.symm)
                  go_ret2
                  exact puPost_syn HNG.out HBE.out
              · have hnb : (c == 95) = false := by rw [beq_eq_false_iff_ne]; exact h95
                rcases hnd with h1 | h1
                all_goals
                  go_wp2_with (go_at_call 91; refine (HLL.out _).mono ?_; rintro e w2 ⟨rfl, hw2⟩; obtain rfl : w1 = w2 := hw2.symm)
                  go_ret2
                  exact puPost_syn HNG.out HBE.out
          · clear hlet
            by_cases h95 : c = 95
            · subst h95
              rcases hnd with h1 | h1
              · exact absurd h1 (by decide)
              · go_wp2_with (go_at_call 91; refine (HLL.out _).mono ?_; rintro e w2 ⟨rfl, hw2⟩; obtain rfl : w1 = w2 := hw2.symm)
                go_ret2
                exact puPost_syn HNG.out HBE.out
            · have hnb : (c == 95) = false := by rw [beq_eq_false_iff_ne]; exact h95
              rcases hnd with h1 | h1
              all_goals
                go_wp2_with (go_at_call 91; refine (HLL.out _).mono ?_; rintro e w2 ⟨rfl, hw2⟩; obtain rfl : w1 = w2 := hw2.symm)
                go_ret2
                exact puPost_syn HNG.out HBE.out
    · have hlt' : ¬ (i : Int) < (s.size : Int) := by omega
      have HFI := hid (show goodX s → v = dxN (intsOf s) from fun g => by
        have := HV.out g
        rwa [List.take_of_length_le (by rw [intsOf_len]; omega)] at this)
      clear hlt hg
      go_wp2_with fail
      go_ret2
      exact ⟨v, .nilIface, rfl, .inl rfl, hv0, hv1, fun g => ⟨rfl, HFI.out g⟩, HBE.out⟩
end Go.Proofs.YtbkjanlkklmleaaGreatDoor
