/- Chapter 19: where raw bytes end: closes, raw: the walks. -/
import Derived.Test.YtpnbkecchfhimaaGreatDoorTkA
import Derived.Lib.SlBytesConst
namespace Go.Proofs.YtpnbkecchfhimaaGreatDoor
open Go.RowKit
open Go.Lib (hid)
set_option linter.unusedVariables false
set_option maxRecDepth 100000

theorem toList_ne {x y : ByteArray} (h : x ≠ y) : ¬ x.toList = y.toList := fun e => h (by
  rw [Lib.toList_data, Lib.toList_data] at e
  exact ByteArray.ext (Array.toList_inj.1 e))
theorem closesB_is (s x : ByteArray) (j : Nat) : closesB s x j =
    (decide (j + 2 + x.size ≤ s.size) && decide (byt s j = 60) && decide (byt s (j + 1) = 47) && decide (lowerB (s.extract (j + 2) (j + 2 + x.size)) = x) && (decide (j + 2 + x.size = s.size) || endB (byt s (j + 2 + x.size)))) := rfl
set_option maxHeartbeats 4000000 in
theorem closes_any (a : Option Addr) (n cap i : Nat) (s x : ByteArray) (w : World) (hb : BA w a n cap s) (hm : n ≤ 1000000) (hi : i < n) (hx0 : 0 < x.size) (hx1 : x.size ≤ 1000000) :
    Calls Tryz.prog 97 #[.slice a n cap, .int .i64 i, .string x] w fun e w' => e = .returned (.bool (closesB s x i)) ∧ Below w.heap.size w w' := by
  have hns := hb.1
  have hcap := hb.2.1
  obtain ⟨b, off, rfl, hbl, hz⟩ := hb.2.2.2 (by omega)
  obtain ⟨e, he⟩ : ∃ e, e = i + 2 + x.size := ⟨_, rfl⟩
  have hec : (i : Int) + 2 + (x.size : Int) = (e : Int) := by omega
  have HIS := hid (closesB_is s x i)
  rw [← he] at HIS
  by_cases h1 : n < e
  · have HF := hid (show closesB s x i = false by rw [HIS.out, decide_eq_false (by omega)]; rfl)
    have h1' : (n : Int) < (e : Int) := by omega
    clear hb hz h1 he
    go_enter Tryz.func97, Tryz.ntmps97
    go_wp2_with fail
    go_ret
    exact ⟨ret_bool HF.out.symm, Below.refl _ _⟩
  have h1' : ¬ (n : Int) < (e : Int) := by omega
  have hi1 : i + 1 < s.size := by omega
  have c0 := bytes_cell hz (i := i) (by omega)
  have c1 := bytes_cell hz (i := i + 1) hi1
  have hi' : (i : Int) < (n : Int) := by omega
  obtain ⟨i1, hi1e⟩ : ∃ i1, i1 = i + 1 := ⟨_, rfl⟩
  have hii : (i : Int) + 1 = (i1 : Int) := by omega
  have hi1' : (i1 : Int) < (n : Int) := by omega
  rw [← hi1e] at c1
  have HI1 := hid hi1e
  by_cases h2 : byt s i = 60
  · by_cases h3 : byt s (i + 1) = 47
    · obtain ⟨j2, hj2⟩ : ∃ j2, j2 = i + 2 := ⟨_, rfl⟩
      have hjj : (i : Int) + 2 = (j2 : Int) := by omega
      have hec3 : (j2 : Int) + (x.size : Int) = (e : Int) := by omega
      have hje : j2 ≤ e := by omega
      have hec2 : e ≤ cap := by omega
      have hrow := fun W => slice_row b off n cap j2 e hje hec2 (by omega) W
      have hlow := fun W => lower_any (s.extract j2 e) (by rw [ByteArray.size_extract]; omega) W
      have hej : j2 + (e - j2) = e := by omega
      have hcv : (convert 22 9 (.slice (some ⟨b, off + j2, none⟩) (e - j2) (cap - j2))).run Tryz.prog w = .ok (.string (s.extract j2 e)) w := by
        have := Lib.run_convert_window (P := Tryz.prog) w 22 5 9 Tryz.underlying22 Tryz.underlying5 Tryz.underlying9 b off s hz j2 (e - j2) (cap - j2) (by omega)
        rwa [hej] at this
      have hde : decide (e ≤ s.size) = true := decide_eq_true (by omega)
      have hlt : ¬ (e : Int) = (n : Int) → (e : Int) < (n : Int) := by omega
      have cE := fun (h : e < s.size) => bytes_cell hz h
      rw [hde, decide_eq_true h2, decide_eq_true h3, ← hj2] at HIS
      rw [h2] at c0
      rw [show byt s i1 = 47 by rw [hi1e]; exact h3] at c1
      have HLOW := hid hlow
      have HC := hid cE
      have HCV := hid hcv
      generalize s.extract j2 e = y at *
      generalize hlb : lowerB y = z at *
      have HNS := hid hns
      have hex : e = j2 + x.size := by omega
      have HEX := hid hex
      clear hb hz h2 h3 he hi1e hlow cE hde hns hej hj2 hex hcv hlb
      have hcv := HCV.out
      by_cases h4 : z = x
      · subst h4
        by_cases h5 : e = n
        · have HF := hid (show closesB s z i = true by rw [HIS.out, decide_eq_true rfl, decide_eq_true (h5.trans HNS.out)]; rfl)
          subst h5
          go_enter Tryz.func97, Tryz.ntmps97
          go_wp2_with fail
          refine (HLOW.out _).mono ?_
          rintro e2 w2 ⟨rfl, hb2⟩
          have HB2 := hid hb2
          clear hb2
          go_wp2_with fail
          go_ret
          exact ⟨ret_bool HF.out.symm, HB2.out⟩
        · have hen : e < n := by omega
          have hen' : (e : Int) < (n : Int) := by omega
          have hnee : ¬ (e : Int) = (n : Int) := by omega
          have hneb : ((e : Int) == (n : Int)) = false := by simpa using hnee
          have c2 := HC.out (by have := HNS.out; omega)
          have HF := hid (show closesB s z i = endB (byt s e) by rw [HIS.out, decide_eq_true rfl, decide_eq_false (fun h => h5 (h.trans HNS.out.symm))]; rfl)
          generalize byt s e = c at *
          clear h5
          go_enter Tryz.func97, Tryz.ntmps97
          go_wp2_with fail
          refine (HLOW.out _).mono ?_
          rintro e2 w2 ⟨rfl, hb2⟩
          have HB2 := hid hb2
          have hs2 := hb2.size
          have c2 := (hb2.cell (p := ⟨b, off + e, none⟩) hbl).trans c2
          clear hb2
          have HB3 := hid (HB2.out.alloc hs2 (.cells #[.int .u8 9, .int .u8 10, .int .u8 12, .int .u8 13, .int .u8 32, .int .u8 47, .int .u8 62] 5 (7, 8)))
          have c3 := (((Below.refl w2.heap.size w2).alloc (Nat.le_refl _) (.cells #[.int .u8 9, .int .u8 10, .int .u8 12, .int .u8 13, .int .u8 32, .int .u8 47, .int .u8 62] 5 (7, 8))).cell (p := ⟨b, off + e, none⟩) (by show b < w2.heap.size; omega)).trans c2
          have kc := Lib.run_convert_bytes_const (P := Tryz.prog) w2 22 5 #[.int .u8 9, .int .u8 10, .int .u8 12, .int .u8 13, .int .u8 32, .int .u8 47, .int .u8 62] 7 7 Tryz.underlying22 Tryz.underlying5
          simp only [List.size_toArray, List.length_cons, List.length_nil, Nat.reduceAdd] at kc
          have HK := hid (contains7_any w2.heap.size c _ (fun k hk => (cell_of_row _ w2.heap.size k _ _ _ (heap_alloc_new w2 (.cells #[.int .u8 9, .int .u8 10, .int .u8 12, .int .u8 13, .int .u8 32, .int .u8 47, .int .u8 62] 5 (7, 8)))).trans (endC_get ⟨k, hk⟩)))
          go_wp2_with fail
          refine HK.out.mono ?_
          rintro e3 w3 ⟨rfl, hw3⟩
          subst hw3
          go_wp2_with fail
          go_ret
          exact ⟨ret_bool HF.out.symm, HB3.out⟩
      · have HF := hid (show closesB s x i = false by rw [HIS.out, decide_eq_false h4]; rfl)
        have k1 := toList_ne h4
        have k2 : (z.toList == x.toList) = false := by simpa using k1
        have k3 : (z.toList != x.toList) = true := by simpa using k1
        clear h4
        go_enter Tryz.func97, Tryz.ntmps97
        go_wp2_with fail
        refine (HLOW.out _).mono ?_
        rintro e2 w2 ⟨rfl, hb2⟩
        have HB2 := hid hb2
        clear hb2
        go_wp2_with fail
        go_ret
        exact ⟨ret_bool HF.out.symm, HB2.out⟩
    · have HF := hid (show closesB s x i = false by rw [HIS.out, decide_eq_false h3]; simp)
      have hne : (byt s i1 != 47) = true := by rw [HI1.out]; simpa using h3
      rw [h2] at c0
      generalize byt s i1 = z at *
      clear hb hz h1 he hi1e h3 h2
      go_enter Tryz.func97, Tryz.ntmps97
      go_wp2_with fail
      go_ret
      exact ⟨ret_bool HF.out.symm, Below.refl _ _⟩
  · have HF := hid (show closesB s x i = false by rw [HIS.out, decide_eq_false h2]; simp)
    have hne : (byt s i != 60) = true := by simpa using h2
    generalize byt s i = z at *
    clear hb hz h1 he hi1e h2
    go_enter Tryz.func97, Tryz.ntmps97
    go_wp2_with fail
    go_ret
    exact ⟨ret_bool HF.out.symm, Below.refl _ _⟩
set_option maxHeartbeats 1000000 in
theorem raw_any (a : Option Addr) (n cap i : Nat) (s x : ByteArray) (w : World) (hb : BA w a n cap s) (hm : n ≤ 1000000) (hi : i ≤ n) (hx0 : 0 < x.size) (hx1 : x.size ≤ 1000000) :
    Calls Tryz.prog 67 #[.slice a n cap, .int .i64 i, .string x] w fun e w' => e = .returned (.int .i64 (rawE s x i)) ∧ Below w.heap.size w w' := by
  have HCL := hid (fun (W : World) (h : Below w.heap.size w W) (j : Nat) (hj : j < n) => closes_any a n cap j s x W (hb.below h (Nat.le_refl _)) hm hj hx0 hx1)
  have HN := hid hb.1
  clear hb
  go_enter Tryz.func67, Tryz.ntmps67
  go_wp2_with fail
  go_loopg [1] (n - i) (fun kx s1 wr => ∃ j : Nat, s1 = .int .i64 j ∧ j ≤ n ∧ n - j ≤ kx ∧ Hid (Below w.heap.size w wr) ∧ Hid (rawE s x i = rawE s x j))
  case atStart => exact ⟨i, rfl, hi, Nat.le_refl _, Below.refl _ _, rfl⟩
  case round =>
    obtain ⟨j, rfl, hj, hg, HB, HE⟩ := hrel
    by_cases hlt : j < n
    · have hlt' : (j : Int) < (n : Int) := by omega
      have HC := hid (HCL.out wr HB.out j hlt)
      cases hc : closesB s x j
      · have HE2 := hid (HE.out.trans (scanTo_step (by have := HN.out; omega) hc))
        rw [hc] at HC
        clear hc
        go_wp2_with fail
        refine HC.out.mono ?_
        rintro e2 w2 ⟨rfl, hb2⟩
        have HB2 := hid (HB.out.trans (hb2.mono HB.out.size))
        clear hb2
        go_wp2_with fail
        go_roundg (n - (j + 1))
        case measure => omega
        case rel => exact ⟨j + 1, by go_num, by omega, Nat.le_refl _, HB2, HE2⟩
      · have HE2 := hid (HE.out.trans (scanTo_stop (by have := HN.out; omega) hc))
        rw [hc] at HC
        clear hc
        go_wp2_with fail
        refine HC.out.mono ?_
        rintro e2 w2 ⟨rfl, hb2⟩
        have HB2 := hid (HB.out.trans (hb2.mono HB.out.size))
        clear hb2
        go_wp2_with fail
        go_ret
        exact ⟨ret_int (by rw [HE2.out]), HB2.out⟩
    · have hlt' : ¬ (j : Int) < (n : Int) := by omega
      obtain rfl : j = n := by omega
      have HE2 := hid (HE.out.trans (scanTo_end (by have := HN.out; omega)))
      clear hlt hg
      go_wp2_with fail
      go_ret
      exact ⟨ret_int (by rw [HE2.out]), HB.out⟩
end Go.Proofs.YtpnbkecchfhimaaGreatDoor
