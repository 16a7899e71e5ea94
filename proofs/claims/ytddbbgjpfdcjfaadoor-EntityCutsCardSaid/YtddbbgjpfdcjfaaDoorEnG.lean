/- Chapter 16: the document's reading: the walk. -/
import Derived.Test.YtddbbgjpfdcjfaaDoorEnF
namespace Go.Proofs.YtddbbgjpfdcjfaaDoor
open Go.RowKit
open Go.Shelf
open Go.Lib (hid)
set_option linter.unusedVariables false

theorem conv_sub {W : World} {b off : Nat} {s : ByteArray} (hz : Lib.Bytes W b off s) (i E c : Nat) (h1 : i ≤ E) (h2 : E ≤ s.size) : (convert 22 9 (.slice (some ⟨b, off + i, none⟩) (E - i) c)).run Tryd.prog W = .ok (.string (s.extract i E)) W := by
  have := Lib.run_convert_window (P := Tryd.prog) W 22 5 9 Tryd.underlying22 Tryd.underlying5 Tryd.underlying9 b off s hz i (E - i) c (by omega)
  rw [this, show i + (E - i) = E by omega]
def pairV (q : Option (Int × Nat)) : Value := .tuple #[.int .i32 (q.getD (0, 0)).1, .int .i64 ((q.getD (0, 0)).2 : Nat)]
theorem refGo_yes {s : ByteArray} {i q : Nat} (h1 : q ≤ 10) (h2 : i + q ≤ s.size) (h : 0 ≤ refW (s.extract i (i + q))) : refGo s i (11 - q) q = some (refW (s.extract i (i + q)), q) := by
  rw [show 11 - q = (10 - q) + 1 by omega, refGo, if_pos ⟨h1, h2⟩, if_pos h]
theorem refGo_next {s : ByteArray} {i q : Nat} (h1 : q ≤ 10) (h2 : i + q ≤ s.size) (h : ¬ 0 ≤ refW (s.extract i (i + q))) : refGo s i (11 - q) q = refGo s i (11 - (q + 1)) (q + 1) := by
  rw [show 11 - q = (10 - q) + 1 by omega, refGo, if_pos ⟨h1, h2⟩, if_neg h, show 11 - (q + 1) = 10 - q by omega]
theorem refGo_stop {s : ByteArray} {i q : Nat} (h : ¬ (q ≤ 10 ∧ i + q ≤ s.size)) : refGo s i (11 - q) q = none := by
  rcases Nat.lt_or_ge 10 q with h1 | h1
  · rw [show 11 - q = 0 by omega, refGo]
  · rw [show 11 - q = (10 - q) + 1 by omega, refGo, if_neg h]

set_option maxRecDepth 100000 in
set_option maxHeartbeats 8000000 in
theorem refread_any (a : Option Addr) (n cap i : Nat) (s : ByteArray) (w : World) (hb : BA w a n cap s) (hm : n ≤ 1000000) (hi : i < n) :
    Calls Tryd.prog 10 #[.slice a n cap, .int .i64 i] w fun e w' => e = .returned (pairV (refR s i)) ∧ Below w.heap.size w w' := by
  have hns := hb.1
  have hcap := hb.2.1
  obtain ⟨b, off, rfl, hbl, hz⟩ := hb.2.2.2 (by omega)
  have hne : ¬ cap = i := by omega
  have HZ := hid hz
  have HNS := hid hns
  clear hz hns hb
  go_enter Tryd.func10, Tryd.ntmps10
  go_wp2_with fail
  go_loopg [6] 8 (fun kx s6 wr => ∃ q : Nat, s6 = .int .i64 q ∧ 3 ≤ q ∧ q ≤ 11 ∧ 11 - q ≤ kx ∧ Hid (refR s i = refGo s i (11 - q) q) ∧ Hid (Below w.heap.size w wr))
  case atStart => exact ⟨3, rfl, by omega, by omega, by omega, rfl, Below.refl _ _⟩
  case round =>
    obtain ⟨q, rfl, hq3, hq11, hg, HQ, HB⟩ := hrel
    obtain ⟨e, he⟩ : ∃ e, e = i + q := ⟨_, rfl⟩
    have hie : (i : Int) + (q : Int) = (e : Int) := by omega
    have HE := hid he
    have hile : i ≤ e := by omega
    clear he
    by_cases h10 : q ≤ 10
    · have h10' : (q : Int) ≤ 10 := by omega
      by_cases hen : e ≤ n
      · have hen' : (e : Int) ≤ (n : Int) := by omega
        have hqn : i + q ≤ s.size := by have := HE.out; have := HNS.out; omega
        have hys := refGo_yes h10 hqn
        have hnx := refGo_next h10 hqn
        have hsl := slice_row b off n cap i e hile (by omega) hne wr
        have hcv := conv_sub (Bytes.keepAt HZ.out fun k => HB.out.cell (p := ⟨b, k, none⟩) hbl) i e (cap - i) hile (by have := HE.out; omega)
        have hwh := whole_any (s.extract i e) wr (by rw [ByteArray.size_extract]; have := HNS.out; omega)
        rw [← HE.out] at hys hnx
        generalize s.extract i e = t at *
        generalize refW t = r at *
        have HWH := hid hwh
        clear hwh hqn
        by_cases hr : 0 ≤ r
        · have HRES := hid (HQ.out.trans (hys hr))
          clear hys hnx
          go_wp2_with fail
          refine HWH.out.mono ?_
          rintro e2 w2 ⟨rfl, hb2⟩
          have HB2 := hid (HB.out.trans (hb2.mono HB.out.size))
          clear hb2
          go_wp2_with fail
          go_ret2
          rw [HRES.out]
          exact ⟨rfl, HB2.out⟩
        · have HRES := hid (HQ.out.trans (hnx hr))
          clear hys hnx
          go_wp2_with fail
          refine HWH.out.mono ?_
          rintro e2 w2 ⟨rfl, hb2⟩
          have HB2 := hid (HB.out.trans (hb2.mono HB.out.size))
          clear hb2
          go_wp2_with fail
          go_roundg (11 - (q + 1))
          case measure => omega
          case rel => exact ⟨q + 1, by go_num, by omega, by omega, Nat.le_refl _, HRES, HB2⟩
      · have hen' : ¬ (e : Int) ≤ (n : Int) := by omega
        have HRES := hid (HQ.out.trans (refGo_stop (by have := HE.out; have := HNS.out; omega)))
        go_wp2_with fail
        go_ret2
        rw [HRES.out]
        exact ⟨rfl, HB.out⟩
    · have h10' : ¬ (q : Int) ≤ 10 := by omega
      have HRES := hid (HQ.out.trans (refGo_stop (by omega)))
      go_wp2_with fail
      go_ret2
      rw [HRES.out]
      exact ⟨rfl, HB.out⟩
end Go.Proofs.YtddbbgjpfdcjfaaDoor
