/- Chapter 19: the document's ends, begins: walks. -/
import Derived.Test.YtpnbkecchfhimaaGreatDoorTkR
import Derived.Test.YtpnbkecchfhimaaGreatDoorTkP3
import Derived.Test.YtpnbkecchfhimaaGreatDoorMTg4
namespace Go.Proofs.YtpnbkecchfhimaaGreatDoor
open Go.RowKit Go.Shelf
open Go.Lib (hid)
set_option linter.unusedVariables false
set_option maxRecDepth 100000

theorem toList_neS {x y : ByteArray} (h : x ≠ y) : ¬ x.toList = y.toList := fun e => h (by
  rw [Lib.toList_data, Lib.toList_data] at e
  exact ByteArray.ext (Array.toList_inj.1 e))
set_option maxHeartbeats 4000000 in
theorem refends_any (a : Option Addr) (n cap j : Nat) (s x : ByteArray) (w : World) (hb : BA w a n cap s) (hm : n ≤ 1000000) (hj : j < n) (hx1 : x.size ≤ 1000000) :
    Calls Tryz.prog 39 #[.slice a n cap, .int .i64 j, .string x] w fun e w' => e = .returned (.bool (closesB s x j)) ∧ Below w.heap.size w w' := by
  have hns := hb.1
  have hcap := hb.2.1
  obtain ⟨b, off, rfl, hbl, hz⟩ := hb.2.2.2 (by omega)
  obtain ⟨e, he⟩ : ∃ e, e = j + 2 + x.size := ⟨_, rfl⟩
  have HIS := hid (closesB_ref s x j)
  rw [← he] at HIS
  obtain ⟨wt, hwt⟩ : ∃ wt, wt = (⟨#[60, 47]⟩ : ByteArray) ++ x := ⟨_, rfl⟩
  have hws : wt.size = 2 + x.size := by rw [hwt, ByteArray.size_append]; rfl
  have hlts : ltsB ++ x = wt := hwt.symm
  rw [hlts] at HIS
  have hec : (j : Int) + (wt.size : Int) = (e : Int) := by omega
  have hc1 : ¬ (2 + x.size > 9223372036854775807) := by omega
  have hc2 : ¬ (9223372036854775807 < 2 + x.size) := by omega
  have hws2 : wt.size ≤ 1000002 := by omega
  have HWT := hid hwt.symm
  have HWS := hid hws
  have HEE := hid he
  clear hwt hws hlts
  by_cases h1 : n < e
  · have HF := hid (show closesB s x j = false by rw [HIS.out, decide_eq_false (by omega)]; rfl)
    have h1' : (n : Int) < (e : Int) := by omega
    clear hb hz h1 he
    go_enter Tryz.func39, Tryz.ntmps39
    go_upto_region 2 with fail
    rw [HWT.out]
    go_wp2_with fail
    go_ret
    exact ⟨ret_bool HF.out.symm, Below.refl _ _⟩
  have h1' : ¬ (n : Int) < (e : Int) := by omega
  have hje : j ≤ e := by omega
  have hje' : (j : Int) ≤ (e : Int) := by omega
  have hec2 : e ≤ cap := by omega
  have hrow := fun W => slice_row b off n cap j e hje hec2 (by omega) W
  have hlow := fun W => rlower_any (s.extract j e) (by rw [ByteArray.size_extract]; omega) W
  have hcv : (convert 22 9 (.slice (some ⟨b, off + j, none⟩) (e - j) (cap - j))).run Tryz.prog w = .ok (.string (s.extract j e)) w := by
    have := Lib.run_convert_window (P := Tryz.prog) w 22 5 9 Tryz.underlying22 Tryz.underlying5 Tryz.underlying9 b off s hz j (e - j) (cap - j) (by omega)
    rwa [show j + (e - j) = e by omega] at this
  have hde : decide (e ≤ s.size) = true := decide_eq_true (by omega)
  have hlt : ¬ (e : Int) = (n : Int) → (e : Int) < (n : Int) := by omega
  have cE := fun (h : e < s.size) => bytes_cell hz h
  rw [hde] at HIS
  have HLOW := hid hlow
  have HC := hid cE
  have HCV := hid hcv
  have HNS := hid hns
  generalize s.extract j e = y at *
  generalize hlb : lowerB y = z at *
  clear hb hz he hlow cE hde hns hcv hlb
  have hcv := HCV.out
  by_cases h4 : z = wt
  · subst h4
    by_cases h5 : e = n
    · have HF := hid (show closesB s x j = true by rw [HIS.out, decide_eq_true rfl, decide_eq_true (h5.trans HNS.out)]; rfl)
      subst h5
      go_enter Tryz.func39, Tryz.ntmps39
      go_upto_region 2 with fail
      rw [HWT.out]
      go_wp2_with fail
      refine (HLOW.out _).mono ?_
      rintro e2 w2 ⟨rfl, hb2⟩
      have HB2 := hid hb2
      clear hb2
      go_wp2_with fail
      go_ret
      exact ⟨ret_bool HF.out.symm, HB2.out⟩
    · have hen : e < n := by omega
      have hen' : (e : Int) < (n : Int) := by omega
      have hnee : ¬ (e : Int) = (n : Int) := by omega
      have hneb : ((e : Int) == (n : Int)) = false := by simpa using hnee
      have c2 := HC.out (by have := HNS.out; omega)
      have HF := hid (show closesB s x j = (blankB (byt s e) || decide (byt s e = 47) || decide (byt s e = 62)) by rw [HIS.out, decide_eq_true rfl, decide_eq_false (fun h => h5 (h.trans HNS.out.symm))]; rfl)
      generalize byt s e = c at *
      have HBL := hid (fun W => refblank_any c W)
      generalize blankB c = bl at *
      clear h5
      have body : ∀ (k47 k62 : Bool), decide (c = 47) = k47 → decide (c = 62) = k62 → (c == 47) = k47 → (c == 62) = k62 → Calls Tryz.prog 39 #[.slice (some ⟨b, off, none⟩) n cap, .int .i64 j, .string x] w fun e w' => e = .returned (.bool (closesB s x j)) ∧ Below w.heap.size w w' := by
        intro k47 k62 d47 d62 b47 b62
        have HD := hid (And.intro d47 d62)
        clear d47 d62
        cases bl <;> cases k47 <;> cases k62
        all_goals
          go_enter Tryz.func39, Tryz.ntmps39
          go_upto_region 2 with fail
          rw [HWT.out]
          go_wp2_with fail
          refine (HLOW.out _).mono ?_
          rintro e2 w2 ⟨rfl, hb2⟩
          have HB2 := hid hb2
          have c3 := (hb2.cell (p := ⟨b, off + e, none⟩) hbl).trans c2
          clear hb2
          go_wp2_with (go_at_call 69; refine (HBL.out _).mono ?_; rintro e4 w4 ⟨rfl, hw4⟩; obtain rfl : w2 = w4 := hw4.symm)
          go_ret
          exact ⟨ret_bool (by rw [HF.out, HD.out.1, HD.out.2]; rfl), HB2.out⟩
      refine body _ _ rfl rfl ?_ ?_
      · by_cases h : c = 47 <;> simp [h]
      · by_cases h : c = 62 <;> simp [h]
  · have HF := hid (show closesB s x j = false by rw [HIS.out, decide_eq_false h4]; rfl)
    have k1 := toList_neS h4
    have k2 : (z.toList == wt.toList) = false := by simpa using k1
    have k3 : (z.toList != wt.toList) = true := by simpa using k1
    clear h4
    go_enter Tryz.func39, Tryz.ntmps39
    go_upto_region 2 with fail
    rw [HWT.out]
    go_wp2_with fail
    refine (HLOW.out _).mono ?_
    rintro e2 w2 ⟨rfl, hb2⟩
    have HB2 := hid hb2
    clear hb2
    go_wp2_with fail
    go_ret
    exact ⟨ret_bool HF.out.symm, HB2.out⟩
end Go.Proofs.YtpnbkecchfhimaaGreatDoor
