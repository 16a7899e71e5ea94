/- Texts of an earlier chapter (En), merged by a program of mine. -/
import Derived.Test.YtpnbkecchfhimaaGreatDoorBase
import Derived.Test.YtpnbkecchfhimaaGreatDoorMem
import Derived.Test.YtpnbkecchfhimaaGreatDoorWords
import Derived.Test.YtpnbkecchfhimaaGreatDoorOpen
import Derived.Test.YtpnbkecchfhimaaGreatDoorByt
import Derived.Test.YtpnbkecchfhimaaGreatDoorInv
import Derived.Test.YtpnbkecchfhimaaGreatDoorMEn1
import Derived.BigQuiet
import Derived.Deep.Cut
import Derived.Deep.LoopGhost
import Derived.Deep.RegionWith
import Derived.Great.Walk
import Derived.Laws.BitsLemmas
import Derived.LoopN
import Derived.Shelf.Abstract
/- out of EnG -/
namespace Go.Proofs.YtpnbkecchfhimaaGreatDoor
set_option maxRecDepth 100000
open Go.RowKit
open Go.Shelf
open Go.Lib (hid)
set_option linter.unusedVariables false

theorem conv_sub {W : World} {b off : Nat} {s : ByteArray} (hz : Lib.Bytes W b off s) (i E c : Nat) (h1 : i ≤ E) (h2 : E ≤ s.size) : (convert 22 9 (.slice (some ⟨b, off + i, none⟩) (E - i) c)).run Tryz.prog W = .ok (.string (s.extract i E)) W := by
  have := Lib.run_convert_window (P := Tryz.prog) W 22 5 9 Tryz.underlying22 Tryz.underlying5 Tryz.underlying9 b off s hz i (E - i) c (by omega)
  rw [this, show i + (E - i) = E by omega]
def pairV (q : Option (Int × Nat)) : Value := .tuple #[.int .i32 (q.getD (0, 0)).1, .int .i64 ((q.getD (0, 0)).2 : Nat)]
theorem refGo_yes {s : ByteArray} {i q : Nat} (h1 : q ≤ 10) (h2 : i + q ≤ s.size) (h : 0 ≤ refW (s.extract i (i + q))) : refGo s i (11 - q) q = some (refW (s.extract i (i + q)), q) := by
  rw [show 11 - q = (10 - q) + 1 by omega, refGo, if_pos ⟨h1, h2⟩, if_pos h]
theorem refGo_next {s : ByteArray} {i q : Nat} (h1 : q ≤ 10) (h2 : i + q ≤ s.size) (h : ¬ 0 ≤ refW (s.extract i (i + q))) : refGo s i (11 - q) q = refGo s i (11 - (q + 1)) (q + 1) := by
  rw [show 11 - q = (10 - q) + 1 by omega, refGo, if_pos ⟨h1, h2⟩, if_neg h, show 11 - (q + 1) = 10 - q by omega]
theorem refGo_stop {s : ByteArray} {i q : Nat} (h : ¬ (q ≤ 10 ∧ i + q ≤ s.size)) : refGo s i (11 - q) q = none := by
  rcases Nat.lt_or_ge 10 q with h1 | h1
  · rw [show 11 - q = 0 by omega, refGo]
  · rw [show 11 - q = (10 - q) + 1 by omega, refGo, if_neg h]

set_option maxRecDepth 100000 in
set_option maxHeartbeats 8000000 in
theorem refread_any_e (a : Option Addr) (n cap i : Nat) (s : ByteArray) (w : World) (hb : BA w a n cap s) (hm : n ≤ 1000000) (hi : i < n) :
    Calls Tryz.prog 70 #[.slice a n cap, .int .i64 i] w fun e w' => e = .returned (pairV (refR s i)) ∧ Below w.heap.size w w' := by
  have hns := hb.1
  have hcap := hb.2.1
  obtain ⟨b, off, rfl, hbl, hz⟩ := hb.2.2.2 (by omega)
  have hne : ¬ cap = i := by omega
  have HZ := hid hz
  have HNS := hid hns
  clear hz hns hb
  go_enter Tryz.func70, Tryz.ntmps70
  go_wp2_with fail
  go_loopg [6] 8 (fun kx s6 wr => ∃ q : Nat, s6 = .int .i64 q ∧ 3 ≤ q ∧ q ≤ 11 ∧ 11 - q ≤ kx ∧ Hid (refR s i = refGo s i (11 - q) q) ∧ Hid (Below w.heap.size w wr))
  case atStart => exact ⟨3, rfl, by omega, by omega, by omega, rfl, Below.refl _ _⟩
  case round =>
    obtain ⟨q, rfl, hq3, hq11, hg, HQ, HB⟩ := hrel
    obtain ⟨e, he⟩ : ∃ e, e = i + q := ⟨_, rfl⟩
    have hie : (i : Int) + (q : Int) = (e : Int) := by omega
    have HE := hid he
    have hile : i ≤ e := by omega
    clear he
    by_cases h10 : q ≤ 10
    · have h10' : (q : Int) ≤ 10 := by omega
      by_cases hen : e ≤ n
      · have hen' : (e : Int) ≤ (n : Int) := by omega
        have hqn : i + q ≤ s.size := by have := HE.out; have := HNS.out; omega
        have hys := refGo_yes h10 hqn
        have hnx := refGo_next h10 hqn
        have hsl := slice_row b off n cap i e hile (by omega) hne wr
        have hcv := conv_sub (Bytes.keepAt HZ.out fun k => HB.out.cell (p := ⟨b, k, none⟩) hbl) i e (cap - i) hile (by have := HE.out; omega)
        have hwh := whole_any (s.extract i e) wr (by rw [ByteArray.size_extract]; have := HNS.out; omega)
        rw [← HE.out] at hys hnx
        generalize s.extract i e = t at *
        generalize refW t = r at *
        have HWH := hid hwh
        clear hwh hqn
        by_cases hr : 0 ≤ r
        · have HRES := hid (HQ.out.trans (hys hr))
          clear hys hnx
          go_wp2_with fail
          refine HWH.out.mono ?_
          rintro e2 w2 ⟨rfl, hb2⟩
          have HB2 := hid (HB.out.trans (hb2.mono HB.out.size))
          clear hb2
          go_wp2_with fail
          go_ret2
          rw [HRES.out]
          exact ⟨rfl, HB2.out⟩
        · have HRES := hid (HQ.out.trans (hnx hr))
          clear hys hnx
          go_wp2_with fail
          refine HWH.out.mono ?_
          rintro e2 w2 ⟨rfl, hb2⟩
          have HB2 := hid (HB.out.trans (hb2.mono HB.out.size))
          clear hb2
          go_wp2_with fail
          go_roundg (11 - (q + 1))
          case measure => omega
          case rel => exact ⟨q + 1, by go_num, by omega, by omega, Nat.le_refl _, HRES, HB2⟩
      · have hen' : ¬ (e : Int) ≤ (n : Int) := by omega
        have HRES := hid (HQ.out.trans (refGo_stop (by have := HE.out; have := HNS.out; omega)))
        go_wp2_with fail
        go_ret2
        rw [HRES.out]
        exact ⟨rfl, HB.out⟩
    · have h10' : ¬ (q : Int) ≤ 10 := by omega
      have HRES := hid (HQ.out.trans (refGo_stop (by omega)))
      go_wp2_with fail
      go_ret2
      rw [HRES.out]
      exact ⟨rfl, HB.out⟩

end Go.Proofs.YtpnbkecchfhimaaGreatDoor

/- out of EnH -/
namespace Go.Proofs.YtpnbkecchfhimaaGreatDoor
set_option maxRecDepth 100000
open Go.RowKit
open Go.Shelf
open Go.Lib (hid)
set_option linter.unusedVariables false

def gOf (f : Fm) : Nat := if f.base = 0 then 183 else if f.base = 10 then 182 else 181
def fnV (f : Fm) : Value := .func (.func (gOf f)) #[] #[]
def fmV (f : Fm) : Array Value := #[.int .i64 f.skip, .int .i64 f.most, fnV f, .int .i64 f.base]
theorem slice_head (b off n cap k : Nat) (hk : k ≤ cap) (W : World) (h0 : 0 < k) : (Instr.slice 22 (.slice (some ⟨b, off, none⟩) n cap) none (some (.int .i64 k)) none).run Tryz.prog W = .ok (.slice (some ⟨b, off, none⟩) k cap) W := by
  rw [run_slice_h (P := Tryz.prog) W 22 _ n cap rfl .i64 k (by omega) (by omega)]
  have hs : (sizeOf (Tryz.prog.elem 22)).run Tryz.prog W = .ok 1 W := by go_simp
  rw [hs]
  have hc : ¬ cap = 0 := by omega
  simp [Result.andThen, sliced, hc, Addr.add]
theorem conv_head {W : World} {b off : Nat} {s : ByteArray} (hz : Lib.Bytes W b off s) (k c : Nat) (h2 : k ≤ s.size) : (convert 22 9 (.slice (some ⟨b, off, none⟩) k c)).run Tryz.prog W = .ok (.string (s.extract 0 k)) W := by
  have := Lib.run_convert_window (P := Tryz.prog) W 22 5 9 Tryz.underlying22 Tryz.underlying5 Tryz.underlying9 b off s hz 0 k c (by omega)
  rw [Nat.zero_add, Nat.add_zero] at this
  exact this
theorem pre3 (s : ByteArray) (c : UInt8) (h0 : 0 < s.size) (h38 : byt s 0 = 38) : preB (s.extract 0 (min s.size 3)) ⟨#[38, 35, c]⟩ = decide (3 ≤ s.size ∧ byt s 1 = 35 ∧ byt s 2 = (c.toNat : Int)) := by
  rw [Bool.eq_iff_iff, preB_iff, decide_eq_true_iff, ByteArray.size_extract]
  show 3 ≤ _ ∧ (∀ i, i < 3 → _) ↔ _
  constructor
  · rintro ⟨h1, h2⟩
    have h3 : 3 ≤ s.size := by omega
    have e1 := h2 1 (by decide)
    have e2 := h2 2 (by decide)
    rw [byt_ext0 _ (by omega) (by omega)] at e1 e2
    exact ⟨h3, e1, e2⟩
  · rintro ⟨h1, h2, h3⟩
    refine ⟨by omega, fun i hi => ?_⟩
    rw [byt_ext0 _ (by omega) (by omega)]
    have : i = 0 ∨ i = 1 ∨ i = 2 := by omega
    rcases this with rfl | rfl | rfl
    · exact h38
    · exact h2
    · exact h3
theorem pre2 (s : ByteArray) (h0 : 0 < s.size) (h38 : byt s 0 = 38) : preB (s.extract 0 (min s.size 3)) ⟨#[38, 35]⟩ = decide (2 ≤ s.size ∧ byt s 1 = 35) := by
  rw [Bool.eq_iff_iff, preB_iff, decide_eq_true_iff, ByteArray.size_extract]
  show 2 ≤ _ ∧ (∀ i, i < 2 → _) ↔ _
  constructor
  · rintro ⟨h1, h2⟩
    have h3 : 2 ≤ s.size := by omega
    have e1 := h2 1 (by decide)
    rw [byt_ext0 _ (by omega) (by omega)] at e1
    exact ⟨h3, e1⟩
  · rintro ⟨h1, h2⟩
    refine ⟨by omega, fun i hi => ?_⟩
    rw [byt_ext0 _ (by omega) (by omega)]
    have : i = 0 ∨ i = 1 := by omega
    rcases this with rfl | rfl
    · exact h38
    · exact h2

set_option maxRecDepth 100000 in
set_option maxHeartbeats 8000000 in
theorem formOf_any (b off n cap : Nat) (s : ByteArray) (w : World) (hn : n = s.size) (hcap : n ≤ cap) (h0 : 0 < n) (hm : n ≤ 1000000) (hz : Lib.Bytes w b off s) (hbl : b < w.heap.size) (h38 : byt s 0 = 38) :
    Calls Tryz.prog 135 #[.slice (some ⟨b, off, none⟩) n cap] w fun e w' => e = .returned (.agg (fmV (fmOf s))) ∧ Below w.heap.size w w' := by
  subst hn
  obtain ⟨k, hk⟩ : ∃ k, k = min s.size 3 := ⟨_, rfl⟩
  have hmin : min (s.size : Int) 3 = (k : Int) := by omega
  have hsl := fun W => slice_head b off s.size cap k (by omega) W (by omega)
  have hcv : ∀ W, Below w.heap.size w W → (convert 22 9 (.slice (some ⟨b, off, none⟩) k cap)).run Tryz.prog W = .ok (.string (s.extract 0 k)) W := fun W hW => conv_head (Bytes.keepAt hz fun q => hW.cell (p := ⟨b, q, none⟩) hbl) k cap (by omega)
  have hx := pre3 s 120 h0 h38
  have hX := pre3 s 88 h0 h38
  have hd := pre2 s h0 h38
  rw [← hk] at hx hX hd
  have hkz : (s.extract 0 k).size ≤ 9223372036854775807 := by rw [ByteArray.size_extract]; omega
  have hcv0 := hcv (w.alloc (.cells #[.int .i64 0, .int .i64 0, .nilFunc, .int .i64 0] 209)) ((Below.refl _ _).alloc (Nat.le_refl _) _)
  generalize s.extract 0 k = t at *
  have h1 := fun W => hasprefix_any t ⟨#[38, 35, 120]⟩ W hkz (by decide)
  have h2 := fun W => hasprefix_any t ⟨#[38, 35, 88]⟩ W hkz (by decide)
  have h3 := fun W => hasprefix_any t ⟨#[38, 35]⟩ W hkz (by decide)
  rw [hx] at h1
  rw [hX] at h2
  rw [hd] at h3
  have H1 := hid h1
  have H2 := hid h2
  have H3 := hid h3
  clear hx hX hd hk h1 h2 h3
  have hfc := fm_cases s
  generalize hp1 : decide (3 ≤ s.size ∧ byt s 1 = 35 ∧ byt s 2 = ((120 : UInt8).toNat : Int)) = p1 at *
  generalize hp2 : decide (3 ≤ s.size ∧ byt s 1 = 35 ∧ byt s 2 = ((88 : UInt8).toNat : Int)) = p2 at *
  generalize hp3 : decide (2 ≤ s.size ∧ byt s 1 = 35) = p3 at *
  have hres : fmOf s = if p1 || p2 then fmHex else if p3 then fmDec else fmLet := by
    subst hp1 hp2 hp3
    rcases hfc with ⟨hf, k1, k2, k3⟩ | ⟨hf, k1, k2, k3⟩ | ⟨hf, k1⟩
    · rw [hf, if_pos]
      rw [Bool.or_eq_true, decide_eq_true_iff, decide_eq_true_iff]
      exact k3.elim (fun h => .inl ⟨k1, k2, h⟩) fun h => .inr ⟨k1, k2, h⟩
    · rw [hf, if_neg, if_pos (decide_eq_true ⟨k1, k2⟩)]
      rw [Bool.or_eq_true, decide_eq_true_iff, decide_eq_true_iff]
      rintro (h | h)
      · exact k3 ⟨h.1, .inl h.2.2⟩
      · exact k3 ⟨h.1, .inr h.2.2⟩
    · rw [hf, if_neg, if_neg (by rw [decide_eq_true_iff]; exact k1)]
      rw [Bool.or_eq_true, decide_eq_true_iff, decide_eq_true_iff]
      rintro (h | h)
      · exact k1 ⟨by omega, h.2.1⟩
      · exact k1 ⟨by omega, h.2.1⟩
  have HRES := hid hres
  have hnw := Blk.new w 209 #[.int .i64 0, .int .i64 0, .nilFunc, .int .i64 0]
  have hbw : Below w.heap.size w (w.alloc (.cells #[.int .i64 0, .int .i64 0, .nilFunc, .int .i64 0] 209)) := (Below.refl _ _).alloc (Nat.le_refl _) _
  have HNW := hid hnw
  have HBW := hid hbw
  have HFIN := hid (fun (f : Fm) (w1 : World) (h1 : Blk w1 w.heap.size 209 #[.int .i64 0, .int .i64 0, .nilFunc, .int .i64 0]) (h2 : Below w.heap.size w w1) => (⟨setRow_heap w1 w.heap.size _ (fmV f) _ _ h1, ⟨by simpa using h2.os, by simpa using h2.tape, by simpa using h2.output, by simpa using h2.size, fun k hk => by rw [setRow_other _ _ _ _ (by omega)]; exact h2.block k hk⟩⟩ : (w1.setRow w.heap.size (fmV f)).heap[w.heap.size]? = some (.cells (fmV f) 209 (0, 0)) ∧ Below w.heap.size w (w1.setRow w.heap.size (fmV f))))
  clear hp1 hp2 hp3 hfc hres hnw hbw hcv
  go_enter Tryz.func135, Tryz.ntmps135
  go_upto_region 1 with fail
  generalize w.alloc (.cells #[.int .i64 0, .int .i64 0, .nilFunc, .int .i64 0] 209) = w1 at *
  go_wp2_with fail
  refine (H1.out _).mono ?_
  rintro e w2 ⟨rfl, hw2⟩
  obtain rfl : w1 = w2 := hw2.symm
  cases p1
  · go_wp2_with fail
    refine (H2.out _).mono ?_
    rintro e w2 ⟨rfl, hw2⟩
    obtain rfl : w1 = w2 := hw2.symm
    cases p2
    · go_wp2_with fail
      refine (H3.out _).mono ?_
      rintro e w2 ⟨rfl, hw2⟩
      obtain rfl : w1 = w2 := hw2.symm
      cases p3
      · obtain ⟨HF1, HF2⟩ := HFIN.out fmLet w1 HNW.out HBW.out
        go_wp2_with (refine wpList_store_row rfl 209 (.tmp 2) (.tmp 22) rfl w.heap.size (fmV fmLet) rfl rfl 209 _ HNW.out (by kernel_rfl) (by kernel_rfl) (by kernel_rfl) ?_)
        refine bodyPost_ret (v := .agg (fmV fmLet)) (results_cell_row rfl _ _ w.heap.size _ _ _ _ rfl HF1 Tryz.underlying209 rfl (by kernel_rfl)) rfl ⟨by rw [HRES.out]; rfl, HF2⟩
      · obtain ⟨HF1, HF2⟩ := HFIN.out fmDec w1 HNW.out HBW.out
        go_wp2_with (refine wpList_store_row rfl 209 (.tmp 2) (.tmp 21) rfl w.heap.size (fmV fmDec) rfl rfl 209 _ HNW.out (by kernel_rfl) (by kernel_rfl) (by kernel_rfl) ?_)
        refine bodyPost_ret (v := .agg (fmV fmDec)) (results_cell_row rfl _ _ w.heap.size _ _ _ _ rfl HF1 Tryz.underlying209 rfl (by kernel_rfl)) rfl ⟨by rw [HRES.out]; rfl, HF2⟩
    · obtain ⟨HF1, HF2⟩ := HFIN.out fmHex w1 HNW.out HBW.out
      go_wp2_with (refine wpList_store_row rfl 209 (.tmp 2) (.tmp 17) rfl w.heap.size (fmV fmHex) rfl rfl 209 _ HNW.out (by kernel_rfl) (by kernel_rfl) (by kernel_rfl) ?_)
      refine bodyPost_ret (v := .agg (fmV fmHex)) (results_cell_row rfl _ _ w.heap.size _ _ _ _ rfl HF1 Tryz.underlying209 rfl (by kernel_rfl)) rfl ⟨by rw [HRES.out]; rfl, HF2⟩
  · obtain ⟨HF1, HF2⟩ := HFIN.out fmHex w1 HNW.out HBW.out
    go_wp2_with (refine wpList_store_row rfl 209 (.tmp 2) (.tmp 17) rfl w.heap.size (fmV fmHex) rfl rfl 209 _ HNW.out (by kernel_rfl) (by kernel_rfl) (by kernel_rfl) ?_)
    refine bodyPost_ret (v := .agg (fmV fmHex)) (results_cell_row rfl _ _ w.heap.size _ _ _ _ rfl HF1 Tryz.underlying209 rfl (by kernel_rfl)) rfl ⟨by rw [HRES.out]; rfl, HF2⟩

end Go.Proofs.YtpnbkecchfhimaaGreatDoor

/- out of EnI -/
namespace Go.Proofs.YtpnbkecchfhimaaGreatDoor
set_option maxRecDepth 100000
open Go.RowKit
open Go.Shelf
open Go.Lib (hid)
set_option linter.unusedVariables false

theorem runTo_step {p : Int → Bool} {s : ByteArray} {f i : Nat} (h0 : 0 < f) (h1 : i < s.size) (h2 : p (byt s i) = true) : runTo p s f i = runTo p s (f - 1) (i + 1) := by
  obtain ⟨f, rfl⟩ : ∃ g, f = g + 1 := ⟨f - 1, by omega⟩
  rw [runTo, if_pos ⟨h1, h2⟩, Nat.add_sub_cancel]
theorem runTo_halt {p : Int → Bool} {s : ByteArray} {f i : Nat} (h : f = 0 ∨ s.size ≤ i ∨ p (byt s i) = false) : runTo p s f i = i := by
  cases f with
  | zero => rfl
  | succ f =>
    rw [runTo, if_neg]
    rintro ⟨h1, h2⟩
    rcases h with h | h | h
    · omega
    · omega
    · rw [h] at h2; cases h2

set_option maxRecDepth 100000 in
set_option maxHeartbeats 8000000 in
theorem formrun_any (g : Nat) (p : Int → Bool) (skip most base b off n cap : Nat) (s : ByteArray) (w : World) (eg : ∀ args w, (callFunc g args).run Tryz.prog w = .ok (.enter g args) w) (hf : ∀ (W : World) (c : Int), Calls Tryz.prog g #[.int .u8 c] W fun e w' => e = .returned (.bool (p c)) ∧ w' = W)
    (hn : n = s.size) (hcap : n ≤ cap) (hm : n ≤ 1000000) (hmost : most ≤ 100) (hskip : skip ≤ n) (hz : Lib.Bytes w b off s) (hbl : b < w.heap.size) :
    Calls Tryz.prog 136 #[.agg #[.int .i64 skip, .int .i64 most, .func (.func g) #[] #[], .int .i64 base], .slice (some ⟨b, off, none⟩) n cap] w fun e w' => e = .returned (.int .i64 ((runTo p s most skip - skip : Nat) : Int)) ∧ Below w.heap.size w w' := by
  have hr1 := Blk.new w 209 #[.int .i64 skip, .int .i64 most, .func (.func g) #[] #[], .int .i64 base]
  have hb1 : Below w.heap.size w (w.alloc (.cells #[.int .i64 skip, .int .i64 most, .func (.func g) #[] #[], .int .i64 base] 209)) := (Below.refl _ _).alloc (Nat.le_refl _) _
  have hz1 := Bytes.keepAt hz fun k => hb1.cell (p := ⟨b, k, none⟩) hbl
  have k0 := hr1.cell 0
  have k1 := hr1.cell 1
  have k2 := hr1.cell 2
  simp only [List.getElem?_toArray, List.getElem?_cons_zero, List.getElem?_cons_succ] at k0 k1 k2
  have HF := hid hf
  have HZ := hid hz1
  have HN := hid hn
  have HB1 := hid hb1
  clear hf hz hn hr1 hb1 hz1
  go_enter Tryz.func136, Tryz.ntmps136
  go_upto_region 1 with fail
  generalize w.alloc (.cells #[.int .i64 skip, .int .i64 most, .func (.func g) #[] #[], .int .i64 base] 209) = w1 at *
  go_wp2_with fail
  go_loopg [5] most (fun kx s5 wr => ∃ (k N : Nat), s5 = .int .i64 k ∧ k ≤ most ∧ most - k ≤ kx ∧ skip + k ≤ n ∧ wr = w1.drewN N ∧ Hid (runTo p s most skip = runTo p s (most - k) (skip + k)))
  case atStart => exact ⟨0, 0, rfl, Nat.zero_le _, by omega, by omega, rfl, rfl⟩
  case round =>
    obtain ⟨k, N, rfl, hk, hg, hkn, rfl, HQ⟩ := hrel
    obtain ⟨e, he⟩ : ∃ e, e = skip + k := ⟨_, rfl⟩
    have hse : (skip : Int) + (k : Int) = (e : Int) := by omega
    have hsub : e - skip = k := by omega
    have he63 : (e : Int) ≤ 9223372036854775807 := by omega
    have hwe : IntKind.i64.wrap (e : Int) = (e : Int) := IntWalk.i64_in _ (by omega)
    have HE := hid he
    rw [← he] at hkn HQ
    have HSUB := hid hsub
    clear he hsub
    by_cases hen : e < n
    · have hen' : (e : Int) < (n : Int) := by omega
      by_cases hkm : k < most
      · have hkm' : (k : Int) < (most : Int) := by omega
        have hes : e < s.size := by have := HN.out; omega
        have hcell := bytes_cell HZ.out hes
        have hst := runTo_step (p := p) (f := most - k) (by omega) hes
        have hha := runTo_halt (p := p) (s := s) (f := most - k) (i := e)
        have hfc := fun W => HF.out W (byt s e)
        generalize byt s e = c at *
        cases hp : p c <;> rw [hp] at hfc
        · have HR := hid (HQ.out.trans (hha (.inr (.inr hp))))
          have HFC := hid hfc
          clear hst hha hfc hp
          go_wp2_with fail
          go_quiet ((go_at_fn g; go_must (exact (HFC.out _).mono fun e w2 h => ⟨h.1, _, h.2⟩)))
          go_wp2_with fail
          go_ret
          rw [HR.out, HSUB.out]
          exact ⟨rfl, HB1.out.trans ((below_drewN _ _ _).trans (below_drewN _ _ _))⟩
        · have HR := hid (HQ.out.trans (hst hp))
          have HFC := hid hfc
          clear hst hha hfc hp
          go_wp2_with fail
          go_quiet ((go_at_fn g; go_must (exact (HFC.out _).mono fun e w2 h => ⟨h.1, _, h.2⟩)))
          go_wp2_with fail
          go_roundg (most - (k + 1))
          case measure => omega
          case rel => exact ⟨k + 1, _, by go_num, by omega, Nat.le_refl _, by have := HE.out; omega, rfl, by show _ = _; rw [HR.out, show most - k - 1 = most - (k + 1) by omega, show e + 1 = skip + (k + 1) by have := HE.out; omega]⟩
      · have hkm' : ¬ (k : Int) < (most : Int) := by omega
        have HR := hid (HQ.out.trans (runTo_halt (.inl (by omega))))
        go_wp2_with fail
        go_quiet (fail)
        go_wp2_with fail
        go_ret
        rw [HR.out, HSUB.out]
        exact ⟨rfl, HB1.out.trans ((below_drewN _ _ _).trans (below_drewN _ _ _))⟩
    · have hen' : ¬ (e : Int) < (n : Int) := by omega
      have HR := hid (HQ.out.trans (runTo_halt (.inr (.inl (by have := HN.out; omega)))))
      go_wp2_with fail
      go_quiet (fail)
      go_wp2_with fail
      go_ret
      rw [HR.out, HSUB.out]
      exact ⟨rfl, HB1.out.trans ((below_drewN _ _ _).trans (below_drewN _ _ _))⟩
theorem run_any (b off n cap : Nat) (s : ByteArray) (w : World) (hn : n = s.size) (hcap : n ≤ cap) (h0 : 0 < n) (hm : n ≤ 1000000) (hz : Lib.Bytes w b off s) (hbl : b < w.heap.size) :
    Calls Tryz.prog 136 #[.agg (fmV (fmOf s)), .slice (some ⟨b, off, none⟩) n cap] w fun e w' => e = .returned (.int .i64 ((runE s - (fmOf s).skip : Nat) : Int)) ∧ Below w.heap.size w w' := by
  rcases fm_cases s with ⟨hf, k1, k2, k3⟩ | ⟨hf, k1, k2, k3⟩ | ⟨hf, k1⟩
  · rw [fm_eq hf, hf]
    exact formrun_any 181 hexP 3 6 16 b off n cap s w (fun _ _ => by kernel_rfl) (fun W c => hex_any c W) hn hcap hm (by decide) (by omega) hz hbl
  · rw [fm_eq hf, hf]
    exact formrun_any 182 decP 2 7 10 b off n cap s w (fun _ _ => by kernel_rfl) (fun W c => decimal_any c W) hn hcap hm (by decide) (by omega) hz hbl
  · rw [fm_eq hf, hf]
    exact formrun_any 183 letP 1 6 0 b off n cap s w (fun _ _ => by kernel_rfl) (fun W c => letter_any_e c W) hn hcap hm (by decide) (by omega) hz hbl

end Go.Proofs.YtpnbkecchfhimaaGreatDoor

/- out of EnJ -/
namespace Go.Proofs.YtpnbkecchfhimaaGreatDoor
set_option maxRecDepth 100000
open Go.RowKit
open Go.Shelf
open Go.Lib (hid)
set_option linter.unusedVariables false

theorem or_up : ∀ k : Fin 6, bits .or .u8 (65 + (k.val : Int)) 32 = 97 + (k.val : Int) := by decide
theorem or_low : ∀ k : Fin 6, bits .or .u8 (97 + (k.val : Int)) 32 = 97 + (k.val : Int) := by decide
theorem lower_any_e (c d : Int) (h : bits .or .u8 c 32 = d) (w : World) : Calls Tryz.prog 250 #[.int .u8 c] w fun e w' => e = .returned (.int .u8 d) ∧ w' = w := by
  go_enter Tryz.func250, Tryz.ntmps250
  go_wp2_with fail
  go_ret
  exact ⟨rfl, rfl⟩
theorem dig_cases {base : Nat} {c : Int} (hb : base = 10 ∨ base = 16) (h : pOf base c = true) : (48 ≤ c ∧ c ≤ 57 ∧ digV c = c - 48) ∨ (57 < c ∧ 97 ≤ c ∧ c ≤ 102 ∧ base = 16 ∧ digV c = c - 87 ∧ bits .or .u8 c 32 = c) ∨ (57 < c ∧ 65 ≤ c ∧ c ≤ 70 ∧ base = 16 ∧ digV c = c - 55 ∧ bits .or .u8 c 32 = c + 32) := by
  cases hd : decP c
  · right
    have h16 : base = 16 := by
      rcases hb with rfl | rfl
      · change decP c = true at h
        rw [h] at hd; cases hd
      · rfl
    subst h16
    have hx : hexP c = true := h
    unfold hexP at hx
    rw [hd, Bool.false_or, Bool.or_eq_true, decide_eq_true_iff, decide_eq_true_iff] at hx
    rcases hx with ⟨h1, h2⟩ | ⟨h1, h2⟩
    · left
      refine ⟨by omega, h1, h2, rfl, by unfold digV; rw [hd, if_neg (by decide), if_pos h1], ?_⟩
      have := or_low ⟨(c - 97).toNat, by omega⟩
      simp only at this
      rwa [show (97 : Int) + ((c - 97).toNat : Int) = c by omega] at this
    · right
      refine ⟨by omega, h1, h2, rfl, by unfold digV; rw [hd, if_neg (by decide), if_neg (by omega)], ?_⟩
      have := or_up ⟨(c - 65).toNat, by omega⟩
      simp only at this
      rw [show (65 : Int) + ((c - 65).toNat : Int) = c by omega] at this
      rw [this]
      omega
  · left
    have := of_decide_eq_true hd
    exact ⟨this.1, this.2, by unfold digV; rw [if_pos hd]⟩

set_option maxRecDepth 100000 in
set_option maxHeartbeats 8000000 in
theorem parseUint_any (base : Nat) (hb : base = 10 ∨ base = 16) (s : ByteArray) (h0 : 0 < s.size) (h7 : s.size ≤ 7) (hall : ∀ i, i < s.size → pOf base (byt s i) = true) (w : World) :
    Calls Tryz.prog 236 #[.string s, .int .i64 base, .int .i64 32] w fun e w' => e = .returned (.tuple #[.int .u64 (numL base (intsOf s)), .nilIface]) ∧ Below w.heap.size w w' := by
  have hne : ¬ s = ByteArray.empty := fun e => by rw [e] at h0; exact absurd h0 (by decide)
  have hne2 : ¬ s.toList = [] := fun e => hne (str_toList_inj.1 (by rw [e, Lib.toList_data]; rfl))
  have hne3 : s.toList.isEmpty = false := by simpa using hne2
  have hne4 : (s.toList == []) = false := by simpa using hne2
  have hcv := Lib.run_convert_string_bytes (P := Tryz.prog) w 9 22 5 s Tryz.underlying9 Tryz.underlying22 Tryz.underlying5
  have hby := bytesWorld_new w 5 s
  have hbe := bytesWorld_below w 5 s
  have hcs := fun c => dig_cases (c := c) hb
  have hstep := fun l c => numL_snoc (base : Int) l c
  have hzero : numL (base : Int) [] = 0 := rfl
  generalize numL (base : Int) = N at *
  generalize pOf base = P at *
  have HSTEP := hid hstep
  have HZERO := hid hzero
  have HALL := hid hall
  have HCS := hid hcs
  have HBY := hid hby
  have HBE := hid hbe
  clear hall hcs hstep hzero hby hbe
  go_enter Tryz.func236, Tryz.ntmps236
  rcases hb with rfl | rfl
  all_goals
    try rw [show ((10 : Nat) : Int) = 10 from rfl] at HSTEP
    try rw [show ((10 : Nat) : Int) = 10 from rfl]
    try rw [show ((16 : Nat) : Int) = 16 from rfl] at HSTEP
    try rw [show ((16 : Nat) : Int) = 16 from rfl]
    go_wp2_with fail
    clear hcv hne hne2 hne3 hne4
    generalize Lib.bytesWorld w 5 s = w1 at *
    generalize grownCap w s.size 0 5 = cp at *
    go_loopg [12, 13, 101] s.size (fun kx s12 s13 s101 wr => ∃ (i : Nat) (v : Int), s12 = .bool false ∧ s13 = .int .u64 v ∧ s101 = .int .i64 i ∧ i ≤ s.size ∧ s.size - i ≤ kx ∧ wr = w1 ∧ Hid (v = N ((intsOf s).take i)) ∧ Hid (0 ≤ v ∧ v < 16 ^ i))
    case atStart => exact ⟨0, 0, rfl, rfl, rfl, Nat.zero_le _, by omega, rfl, HZERO.out.symm, ⟨by decide, by decide⟩⟩
    case round =>
      obtain ⟨i, v, rfl, rfl, rfl, hi, hg, hw, HV, HVB⟩ := hrel
      obtain rfl : w1 = wr := hw.symm
      by_cases hlt : i < s.size
      · have hlt' : (i : Int) < (s.size : Int) := by omega
        have hcell := bytes_cell HBY.out hlt
        rw [Nat.zero_add] at hcell
        have htk := ints_take hlt
        have hst := HSTEP.out ((intsOf s).take i) (byt s i)
        rw [← htk, ← HV.out] at hst
        have hcc := HCS.out (byt s i) (HALL.out i hlt)
        have hv0 := HVB.out.1
        have hv1 : v < 268435456 := by have := HVB.out.2; have := pow_small i (by omega); omega
        have HP16 := hid (show (16 : Int) ^ (i + 1) = 16 ^ i * 16 from Int.pow_succ 16 i)
        have hd16 : 0 ≤ digV (byt s i) ∧ digV (byt s i) < 16 := by
          rcases hcc with ⟨a1, a2, a3⟩ | ⟨a0, a1, a2, _, a3, _⟩ | ⟨a0, a1, a2, _, a3, _⟩ <;> omega
        generalize byt s i = c at *
        generalize digV c = d at *
        have HST := hid hst
        have HD16 := hid hd16
        clear htk hst hd16
        have hnb : (c == 95) = false := by rw [beq_eq_false_iff_ne]; omega
        rcases hcc with ⟨a1, a2, a3⟩ | ⟨a0, a1, a2, ha, a3, a4⟩ | ⟨a0, a1, a2, ha, a3, a4⟩
        · subst a3
          go_upto_region 52 with fail
          generalize hm : v * _ = m
          generalize hq : m + (c - 48) = q
          have hq1 : ¬ q < m := by omega
          have hq2 : ¬ 4294967295 < q := by omega
          have HFI := hid (show q = N (List.take (i + 1) (intsOf s)) by rw [HST.out, ← hq, ← hm, Int.mul_comm])
          have HFB := hid (show 0 ≤ q ∧ q < 16 ^ (i + 1) by rw [HP16.out]; have := HVB.out.2; constructor <;> omega)
          clear hm hq hv0 hv1 a1 a2 hnb hcell
          go_wp2_with fail
          go_roundg (s.size - (i + 1))
          case measure => omega
          case rel => exact ⟨i + 1, _, rfl, rfl, by go_num, by omega, Nat.le_refl _, rfl, HFI, HFB⟩
        · first
          | (exact absurd ha (by decide))
          | (clear ha
             subst a3
             have HL := hid (fun W => lower_any_e c c a4 W)
             have a5 : ¬ c ≤ 57 := by omega
             have a6 : c ≤ 122 := by omega
             have a7 : IntKind.u8.wrap (c - 97) = c - 97 := wraps_u8 _ (by omega) (by omega)
             have a8 : IntKind.u8.wrap (c - 97 + 10) = c - 87 := by rw [show c - 97 + 10 = c - 87 by omega]; exact wraps_u8 _ (by omega) (by omega)
             clear a4
             go_upto_region 52 with (go_at_call 250; refine (HL.out _).mono ?_; rintro e w2 ⟨rfl, hw2⟩; obtain rfl : w1 = w2 := hw2.symm)
             generalize hm : v * 16 = m
             generalize hq : m + (c - 87) = q
             have hq1 : ¬ q < m := by omega
             have hq2 : ¬ 4294967295 < q := by omega
             have HFI := hid (show q = N (List.take (i + 1) (intsOf s)) by rw [HST.out, ← hq, ← hm, Int.mul_comm])
             have HFB := hid (show 0 ≤ q ∧ q < 16 ^ (i + 1) by rw [HP16.out]; have := HVB.out.2; constructor <;> omega)
             clear hm hq hv0 hv1 a1 a2 hnb hcell a0 a5 a6 a7 a8
             go_wp2_with fail
             go_roundg (s.size - (i + 1))
             case measure => omega
             case rel => exact ⟨i + 1, _, rfl, rfl, by go_num, by omega, Nat.le_refl _, rfl, HFI, HFB⟩)
        · first
          | (exact absurd ha (by decide))
          | (clear ha
             subst a3
             have HL := hid (fun W => lower_any_e c (c + 32) a4 W)
             have a5 : ¬ c ≤ 57 := by omega
             have a6 : c + 32 ≤ 122 := by omega
             have a9 : 97 ≤ c + 32 := by omega
             have a7 : IntKind.u8.wrap (c + 32 - 97) = c - 65 := by rw [show c + 32 - 97 = c - 65 by omega]; exact wraps_u8 _ (by omega) (by omega)
             have a8 : IntKind.u8.wrap (c - 65 + 10) = c - 55 := by rw [show c - 65 + 10 = c - 55 by omega]; exact wraps_u8 _ (by omega) (by omega)
             clear a4
             go_upto_region 52 with (go_at_call 250; refine (HL.out _).mono ?_; rintro e w2 ⟨rfl, hw2⟩; obtain rfl : w1 = w2 := hw2.symm)
             generalize hm : v * 16 = m
             generalize hq : m + (c - 55) = q
             have hq1 : ¬ q < m := by omega
             have hq2 : ¬ 4294967295 < q := by omega
             have HFI := hid (show q = N (List.take (i + 1) (intsOf s)) by rw [HST.out, ← hq, ← hm, Int.mul_comm])
             have HFB := hid (show 0 ≤ q ∧ q < 16 ^ (i + 1) by rw [HP16.out]; have := HVB.out.2; constructor <;> omega)
             clear hm hq hv0 hv1 a1 a2 hnb hcell a0 a5 a6 a7 a8
             go_wp2_with fail
             go_roundg (s.size - (i + 1))
             case measure => omega
             case rel => exact ⟨i + 1, _, rfl, rfl, by go_num, by omega, Nat.le_refl _, rfl, HFI, HFB⟩)
      · have hlt' : ¬ (i : Int) < (s.size : Int) := by omega
        have hta : (intsOf s).take i = intsOf s := List.take_of_length_le (by rw [intsOf_len]; omega)
        have hv := HV.out
        rw [hta] at hv
        have HVV := hid hv
        clear hta hv hlt hg
        go_wp2_with fail
        go_ret2
        rw [← HVV.out]
        exact ⟨rfl, HBE.out⟩

end Go.Proofs.YtpnbkecchfhimaaGreatDoor

/- out of EnPut -/
namespace Go.Proofs.YtpnbkecchfhimaaGreatDoor
set_option maxRecDepth 100000
open Go.RowKit
open Go.Lib

def rightB (r : Int) : Bool := decide (0 ≤ r) && decide (r ≤ 1114111) && (decide (r < 55296) || decide (57343 < r))

theorem right_any (r : Int) (w : World) : Calls Tryz.prog 217 #[.int .i32 r] w fun e w' => e = .returned (.bool (rightB r)) ∧ w = w' := by
  by_cases h1 : 0 ≤ r
  · by_cases h2 : r ≤ 1114111
    · by_cases h3 : r < 55296
      · have HB := Lib.hid (show rightB r = true by simp [rightB]; omega)
        go_enter Tryz.func217, Tryz.ntmps217
        go_wp2
        go_ret
        exact ⟨ret_bool HB.out.symm, rfl⟩
      · by_cases h4 : 57343 < r
        · have HB := Lib.hid (show rightB r = true by simp [rightB]; omega)
          go_enter Tryz.func217, Tryz.ntmps217
          go_wp2
          go_ret
          exact ⟨ret_bool HB.out.symm, rfl⟩
        · have HB := Lib.hid (show rightB r = false by simp [rightB]; omega)
          go_enter Tryz.func217, Tryz.ntmps217
          go_wp2
          go_ret
          exact ⟨ret_bool HB.out.symm, rfl⟩
    · have HB := Lib.hid (show rightB r = false by simp [rightB]; omega)
      go_enter Tryz.func217, Tryz.ntmps217
      go_wp2
      go_ret
      exact ⟨ret_bool HB.out.symm, rfl⟩
  · have HB := Lib.hid (show rightB r = false by simp [rightB]; omega)
    go_enter Tryz.func217, Tryz.ntmps217
    go_wp2
    go_ret
    exact ⟨ret_bool HB.out.symm, rfl⟩

/-- A number's bytes; of what is no scalar those of the sign for it. -/
def putG (r : Int) : List Int :=
  if r < 128 then [r] else if r < 2048 then [192 + r / 64, 128 + r % 64] else if r < 65536 then [224 + r / 64 / 64, 128 + r / 64 % 64, 128 + r % 64]
  else [240 + r / 64 / 64 / 64, 128 + r / 64 / 64 % 64, 128 + r / 64 % 64, 128 + r % 64]
def putF (r : Int) : List Int := putG (if rightB r then r else 65533)

/-- New bytes that a call has made. -/
def NewBytes (B : Nat) (w : World) (v : Value) (zs : List Int) : Prop := ∃ b, B ≤ b ∧ v = .slice (some ⟨b, 0, none⟩) zs.length zs.length ∧ w.heap[b]? = some (.cells ((zs.map (Value.int .u8)).toArray) 5 (0, 0))

theorem i32_and63 {x : Int} (h₀ : 0 ≤ x) (h₁ : x < 2147483648) : bits .and .i32 x 63 = x % 64 := bits_mask .i32 31 (by decide) wraps_i32 6 (by decide) x h₀ (by omega)

def PutPost (zs : List Int) (w : World) (e : Ending) (w' : World) : Prop := ∃ v, e = .returned v ∧ NewBytes w.heap.size w' v zs ∧ Below w.heap.size w w'

theorem putPost_of {zs : List Int} {n : Nat} {cs : Array Value} {w : World} (hn : zs.length = n) (hc : cs = (zs.map (Value.int .u8)).toArray) : PutPost zs w (.returned (.slice (some ⟨w.heap.size, 0, none⟩) n n)) (w.alloc (.cells cs 5)) := by
  subst hn hc
  exact ⟨_, rfl, ⟨w.heap.size, Nat.le_refl _, rfl, heap_alloc_new _ _⟩, (Below.refl _ _).alloc (Nat.le_refl _) _⟩

theorem mk2 (w : World) : (Instr.makeSlice 22 (.int .i64 2) (.int .i64 2)).run Tryz.prog w = .ok (.slice (some ⟨w.heap.size, 0, none⟩) 2 2) (w.alloc (.cells #[.int .u8 0, .int .u8 0] 5)) := by kernel_rfl

theorem mk3 (w : World) : (Instr.makeSlice 22 (.int .i64 3) (.int .i64 3)).run Tryz.prog w = .ok (.slice (some ⟨w.heap.size, 0, none⟩) 3 3) (w.alloc (.cells #[.int .u8 0, .int .u8 0, .int .u8 0] 5)) := by kernel_rfl

theorem mk4 (w : World) : (Instr.makeSlice 22 (.int .i64 4) (.int .i64 4)).run Tryz.prog w = .ok (.slice (some ⟨w.heap.size, 0, none⟩) 4 4) (w.alloc (.cells #[.int .u8 0, .int .u8 0, .int .u8 0, .int .u8 0] 5)) := by kernel_rfl

set_option maxHeartbeats 4000000 in
theorem put2 (r : Int) (w : World) (h1 : 128 ≤ r) (h2 : r ≤ 2047) (hr : rightB r = true) : Calls Tryz.prog 185 #[.int .i32 r] w (PutPost [192 + r / 64, 128 + r % 64] w) := by
  have hk := mk2
  have hx : bits BinOp.xor .u8 IntKind.u8.max 63 = 192 := by decide
  have a0 : bits .and .i32 (r) 63 = r % 64 := i32_and63 (by omega) (by omega)
  have o0 : bits .or .u8 128 (r % 64) = 128 + r % 64 := u8_or128 _ (by omega) (by omega)
  have q : bits .or .u8 192 (r / 64) = 192 + r / 64 := u8_or192 _ (by omega) (by omega)
  have HR := Lib.hid (right_any r)
  rw [hr] at HR
  clear hr
  go_enter Tryz.func185, Tryz.ntmps185
  go_wp2_with (go_at_call 217; refine (HR.out _).mono ?_; rintro e w' ⟨rfl, rfl⟩)
  refine wp_loop_rounds 2 ?_
  rw [rounds_succ]
  go_wp2
  refine wp_loop_rounds 2 ?_
  rw [rounds_succ]
  go_wp2
  rw [rounds_succ]
  go_wp2
  go_ret
  exact putPost_of rfl rfl

set_option maxHeartbeats 4000000 in
theorem put3 (r : Int) (w : World) (h1 : 2048 ≤ r) (h2 : r ≤ 65535) (hr : rightB r = true) : Calls Tryz.prog 185 #[.int .i32 r] w (PutPost [224 + r / 64 / 64, 128 + r / 64 % 64, 128 + r % 64] w) := by
  have hk := mk3
  have hx : bits BinOp.xor .u8 IntKind.u8.max 31 = 224 := by decide
  have a0 : bits .and .i32 (r) 63 = r % 64 := i32_and63 (by omega) (by omega)
  have o0 : bits .or .u8 128 (r % 64) = 128 + r % 64 := u8_or128 _ (by omega) (by omega)
  have a1 : bits .and .i32 (r / 64) 63 = r / 64 % 64 := i32_and63 (by omega) (by omega)
  have o1 : bits .or .u8 128 (r / 64 % 64) = 128 + r / 64 % 64 := u8_or128 _ (by omega) (by omega)
  have q : bits .or .u8 224 (r / 64 / 64) = 224 + r / 64 / 64 := u8_or224 _ (by omega) (by omega)
  have HR := Lib.hid (right_any r)
  rw [hr] at HR
  clear hr
  go_enter Tryz.func185, Tryz.ntmps185
  go_wp2_with (go_at_call 217; refine (HR.out _).mono ?_; rintro e w' ⟨rfl, rfl⟩)
  refine wp_loop_rounds 3 ?_
  rw [rounds_succ]
  go_wp2
  rw [rounds_succ]
  go_wp2
  refine wp_loop_rounds 3 ?_
  rw [rounds_succ]
  go_wp2
  rw [rounds_succ]
  go_wp2
  rw [rounds_succ]
  go_wp2
  go_ret
  exact putPost_of rfl rfl

set_option maxHeartbeats 4000000 in
theorem put4 (r : Int) (w : World) (h1 : 65536 ≤ r) (h2 : r ≤ 1114111) (hr : rightB r = true) : Calls Tryz.prog 185 #[.int .i32 r] w (PutPost [240 + r / 64 / 64 / 64, 128 + r / 64 / 64 % 64, 128 + r / 64 % 64, 128 + r % 64] w) := by
  have hk := mk4
  have hx : bits BinOp.xor .u8 IntKind.u8.max 15 = 240 := by decide
  have a0 : bits .and .i32 (r) 63 = r % 64 := i32_and63 (by omega) (by omega)
  have o0 : bits .or .u8 128 (r % 64) = 128 + r % 64 := u8_or128 _ (by omega) (by omega)
  have a1 : bits .and .i32 (r / 64) 63 = r / 64 % 64 := i32_and63 (by omega) (by omega)
  have o1 : bits .or .u8 128 (r / 64 % 64) = 128 + r / 64 % 64 := u8_or128 _ (by omega) (by omega)
  have a2 : bits .and .i32 (r / 64 / 64) 63 = r / 64 / 64 % 64 := i32_and63 (by omega) (by omega)
  have o2 : bits .or .u8 128 (r / 64 / 64 % 64) = 128 + r / 64 / 64 % 64 := u8_or128 _ (by omega) (by omega)
  have q : bits .or .u8 240 (r / 64 / 64 / 64) = 240 + r / 64 / 64 / 64 := u8_or240 _ (by omega) (by omega)
  have HR := Lib.hid (right_any r)
  rw [hr] at HR
  clear hr
  go_enter Tryz.func185, Tryz.ntmps185
  go_wp2_with (go_at_call 217; refine (HR.out _).mono ?_; rintro e w' ⟨rfl, rfl⟩)
  refine wp_loop_rounds 4 ?_
  rw [rounds_succ]
  go_wp2
  rw [rounds_succ]
  go_wp2
  rw [rounds_succ]
  go_wp2
  refine wp_loop_rounds 4 ?_
  rw [rounds_succ]
  go_wp2
  rw [rounds_succ]
  go_wp2
  rw [rounds_succ]
  go_wp2
  rw [rounds_succ]
  go_wp2
  go_ret
  exact putPost_of rfl rfl

set_option maxHeartbeats 4000000 in
theorem put1 (r : Int) (w : World) (h1 : 0 ≤ r) (h2 : r < 128) (hr : rightB r = true) : Calls Tryz.prog 185 #[.int .i32 r] w (PutPost [r] w) := by
  have HR := Lib.hid (right_any r)
  rw [hr] at HR
  clear hr
  go_enter Tryz.func185, Tryz.ntmps185
  go_wp2_with (go_at_call 217; refine (HR.out _).mono ?_; rintro e w' ⟨rfl, rfl⟩)
  go_ret
  exact putPost_of rfl rfl

set_option maxHeartbeats 4000000 in
theorem putB (r : Int) (w : World) (hr : rightB r = false) : Calls Tryz.prog 185 #[.int .i32 r] w (PutPost [239, 191, 189] w) := by
  have hk := mk3
  have hx : bits BinOp.xor .u8 IntKind.u8.max 31 = 224 := by decide
  have b1 : bits BinOp.and .i32 65533 63 = 61 := by decide
  have b2 : bits BinOp.or .u8 128 61 = 189 := by decide
  have b3 : bits BinOp.and .i32 1023 63 = 63 := by decide
  have b4 : bits BinOp.or .u8 128 63 = 191 := by decide
  have b5 : bits BinOp.or .u8 224 15 = 239 := by decide
  have HR := Lib.hid (right_any r)
  rw [hr] at HR
  clear hr
  go_enter Tryz.func185, Tryz.ntmps185
  go_wp2_with (go_at_call 217; refine (HR.out _).mono ?_; rintro e w' ⟨rfl, rfl⟩)
  refine wp_loop_rounds 3 ?_
  rw [rounds_succ]
  go_wp2
  rw [rounds_succ]
  go_wp2
  refine wp_loop_rounds 3 ?_
  rw [rounds_succ]
  go_wp2
  rw [rounds_succ]
  go_wp2
  rw [rounds_succ]
  go_wp2
  go_ret
  exact putPost_of rfl rfl

theorem put_any (r : Int) (w : World) : Calls Tryz.prog 185 #[.int .i32 r] w (PutPost (putF r) w) := by
  cases hr : rightB r
  · have e : putF r = [239, 191, 189] := by rw [putF, hr, if_neg (by decide)]; decide
    rw [e]
    exact putB r w hr
  · have e : putF r = putG r := by rw [putF, hr]; rfl
    have hb : 0 ≤ r ∧ r ≤ 1114111 := by simp [rightB] at hr; omega
    rw [e]
    unfold putG
    by_cases h1 : r < 128
    · rw [if_pos h1]; exact put1 r w hb.1 h1 hr
    · rw [if_neg h1]
      by_cases h2 : r < 2048
      · rw [if_pos h2]; exact put2 r w (by omega) (by omega) hr
      · rw [if_neg h2]
        by_cases h3 : r < 65536
        · rw [if_pos h3]; exact put3 r w (by omega) (by omega) hr
        · rw [if_neg h3]; exact put4 r w (by omega) (by omega) hr

end Go.Proofs.YtpnbkecchfhimaaGreatDoor

/- out of EnK -/
namespace Go.Proofs.YtpnbkecchfhimaaGreatDoor
set_option maxRecDepth 100000
open Go.RowKit
open Go.Shelf
open Go.Lib (hid)
set_option linter.unusedVariables false

theorem fold_bound (base : Nat) (hb : base = 10 ∨ base = 16) : ∀ (l : List Int) (a : Int) (k : Nat), (∀ c ∈ l, pOf base c = true) → 0 ≤ a → a < 16 ^ k → 0 ≤ l.foldl (fun n c => (base : Int) * n + digV c) a ∧ l.foldl (fun n c => (base : Int) * n + digV c) a < 16 ^ (k + l.length)
  | [], a, k, _, h0, h1 => ⟨h0, h1⟩
  | c :: l, a, k, h, h0, h1 => by
    obtain ⟨_, d1, d2⟩ := pOf_yes hb (h c (List.mem_cons_self ..))
    have hp : (16 : Int) ^ (k + 1) = 16 ^ k * 16 := Int.pow_succ 16 k
    have := fold_bound base hb l ((base : Int) * a + digV c) (k + 1) (fun x hx => h x (List.mem_cons_of_mem _ hx)) (by rcases hb with rfl | rfl <;> omega) (by rw [hp]; rcases hb with rfl | rfl <;> omega)
    rw [List.foldl_cons, List.length_cons, show k + (l.length + 1) = k + 1 + l.length by omega]
    exact this
theorem numL_bound (base : Nat) (hb : base = 10 ∨ base = 16) (l : List Int) (h : ∀ c ∈ l, pOf base c = true) : 0 ≤ numL base l ∧ numL base l < 16 ^ l.length := by
  have := fold_bound base hb l 0 0 h (Int.le_refl _) (by decide)
  rw [Nat.zero_add] at this
  exact this
theorem num_small (base : Nat) (hb : base = 10 ∨ base = 16) (s : ByteArray) (h7 : s.size ≤ 7) (hall : ∀ i, i < s.size → pOf base (byt s i) = true) : 0 ≤ numL base (intsOf s) ∧ numL base (intsOf s) < 268435456 := by
  have := numL_bound base hb (intsOf s) (List.all_eq_true.1 ((allP_iff _ _).2 hall))
  rw [intsOf_len] at this
  have := pow_small s.size h7
  omega
set_option maxRecDepth 100000 in
set_option maxHeartbeats 4000000 in
theorem parseInt_any (base : Nat) (hb : base = 10 ∨ base = 16) (s : ByteArray) (h0 : 0 < s.size) (h7 : s.size ≤ 7) (hall : ∀ i, i < s.size → pOf base (byt s i) = true) (w : World) :
    Calls Tryz.prog 215 #[.string s, .int .i64 base, .int .i64 32] w fun e w' => e = .returned (.tuple #[.int .i64 (numL base (intsOf s)), .nilIface]) ∧ Below w.heap.size w w' := by
  have hne : ¬ s = ByteArray.empty := fun e => by rw [e] at h0; exact absurd h0 (by decide)
  have hne2 : ¬ s.toList = [] := fun e => hne (str_toList_inj.1 (by rw [e, Lib.toList_data]; rfl))
  have hne3 : s.toList.isEmpty = false := by simpa using hne2
  have hne4 : (s.toList == []) = false := by simpa using hne2
  obtain ⟨hv0, hv1⟩ := num_small base hb s h7 hall
  have hpu := fun W => parseUint_any base hb s h0 h7 hall W
  have hg0 := getC s 0 h0
  have hc := dig_cases hb (hall 0 h0)
  have hc0 : (byt s 0 == 43) = false ∧ (byt s 0 == 45) = false := by
    rw [beq_eq_false_iff_ne, beq_eq_false_iff_ne]
    rcases hc with ⟨a1, a2, _⟩ | ⟨a1, _⟩ | ⟨a1, _⟩ <;> omega
  obtain ⟨hc1, hc2⟩ := hc0
  generalize numL base (intsOf s) = v at *
  generalize byt s 0 = c at *
  have HPU := hid hpu
  have hs0 : (0 : Int) < (s.size : Int) := by omega
  clear hpu hall hb hc h7
  go_enter Tryz.func215, Tryz.ntmps215
  go_wp2_with fail
  refine (HPU.out w).mono ?_
  rintro e w2 ⟨rfl, hb2⟩
  have HB2 := hid hb2
  clear hb2
  go_wp2_with fail
  go_ret2
  exact ⟨rfl, HB2.out⟩
theorem sparseInt_any (base : Nat) (hb : base = 10 ∨ base = 16) (s : ByteArray) (h0 : 0 < s.size) (h7 : s.size ≤ 7) (hall : ∀ i, i < s.size → pOf base (byt s i) = true) (w : World) :
    Calls Tryz.prog 184 #[.string s, .int .i64 base, .int .i64 32] w fun e w' => e = .returned (.tuple #[.int .i64 (numL base (intsOf s)), .nilIface]) ∧ Below w.heap.size w w' := by
  have HPI := hid (parseInt_any base hb s h0 h7 hall w)
  clear hall h0 h7 hb
  go_enter Tryz.func184, Tryz.ntmps184
  go_wp2_with fail
  refine HPI.out.mono ?_
  rintro e w2 ⟨rfl, hb2⟩
  go_wp2_with fail
  go_ret2
  exact ⟨rfl, hb2⟩

theorem putG_mem {r : Int} (h0 : 0 ≤ r) (h1 : r ≤ 1114111) : ∀ y ∈ putG r, 0 ≤ y ∧ y ≤ 255 := by
  unfold putG
  split
  · intro y hy
    rw [List.mem_singleton.1 hy]
    omega
  · split
    · intro y hy
      simp only [List.mem_cons, List.not_mem_nil, or_false] at hy
      rcases hy with rfl | rfl <;> omega
    · split
      · intro y hy
        simp only [List.mem_cons, List.not_mem_nil, or_false] at hy
        rcases hy with rfl | rfl | rfl <;> omega
      · intro y hy
        simp only [List.mem_cons, List.not_mem_nil, or_false] at hy
        rcases hy with rfl | rfl | rfl | rfl <;> omega
theorem putF_mem (r : Int) : ∀ y ∈ putF r, 0 ≤ y ∧ y ≤ 255 := by
  unfold putF
  cases hr : rightB r
  · rw [if_neg (by decide)]
    exact putG_mem (by decide) (by decide)
  · rw [if_pos rfl]
    have hb : 0 ≤ r ∧ r ≤ 1114111 := by simp [rightB] at hr; omega
    exact putG_mem hb.1 hb.2
theorem putF_len (r : Int) : (putF r).length ≤ 4 := by
  unfold putF putG
  generalize (if rightB r = true then r else 65533) = q
  split
  · simp
  · split
    · simp
    · split <;> simp
theorem rightB_iff (r : Int) : rightB r = true ↔ rightV r := by
  unfold rightB rightV
  simp only [Bool.and_eq_true, Bool.or_eq_true, decide_eq_true_iff]
  constructor
  · rintro ⟨⟨h1, h2⟩, h3⟩; exact ⟨h1, h2, h3⟩
  · rintro ⟨h1, h2, h3⟩; exact ⟨⟨h1, h2⟩, h3⟩
theorem put_broken (r : Int) : ofInts (putF r) = ofInts (putF 65533) ↔ ¬ rightV r ∨ r = 65533 := by
  have hB : putF 65533 = [239, 191, 189] := by decide
  constructor
  · intro h
    by_cases hr : rightV r
    · right
      have he : putF r = putG r := by unfold putF; rw [(rightB_iff r).2 hr]; rfl
      have hl : (putF r).length = 3 := by
        have := congrArg ByteArray.size h
        rw [ofInts_size, ofInts_size, hB] at this
        exact this
      have hget : ∀ i, i < 3 → (putF r).getD i 0 = [239, 191, 189].getD i 0 := fun i hi => by
        rw [← ofInts_byt _ (putF_mem r) i (by omega), h, ofInts_byt _ (putF_mem _) i (by rw [hB]; exact hi), hB]
      have g0 := hget 0 (by decide)
      have g1 := hget 1 (by decide)
      have g2 := hget 2 (by decide)
      obtain ⟨r0, r1, _⟩ := hr
      rw [he] at hl g0 g1 g2
      unfold putG at hl g0 g1 g2
      split at hl
      · simp at hl
      · rename_i n1
        split at hl
        · simp at hl
        · rename_i n2
          split at hl
          · rename_i n3
            rw [if_neg n1, if_neg n2, if_pos n3] at g0 g1 g2
            have g0' : 224 + r / 64 / 64 = 239 := g0
            have g1' : 128 + r / 64 % 64 = 191 := g1
            have g2' : 128 + r % 64 = 189 := g2
            omega
          · simp at hl
    · exact .inl hr
  · rintro (h | rfl)
    · have : putF r = putF 65533 := by
        unfold putF
        cases hr : rightB r
        · rfl
        · exact absurd ((rightB_iff r).1 hr) h
      rw [this]
    · rfl
theorem conv_new {B : Nat} {w : World} {v : Value} {zs : List Int} (h : NewBytes B w v zs) (hz : ∀ y ∈ zs, 0 ≤ y ∧ y ≤ 255) (W : World) (hb : Below w.heap.size w W) : (convert 22 9 v).run Tryz.prog W = .ok (.string (ofInts zs)) W := by
  obtain ⟨b, _, rfl, hh⟩ := h
  have hbl : b < w.heap.size := by
    rcases Nat.lt_or_ge b w.heap.size with h | h
    · exact h
    · rw [Array.getElem?_eq_none h] at hh; cases hh
  have hby : Lib.Bytes W b 0 (ofInts zs) := by
    apply bytes_of_byt
    intro i hi
    have hi' : i < zs.length := by rw [ofInts_size] at hi; exact hi
    rw [Nat.zero_add, hb.cell (p := ⟨b, i, none⟩) hbl, ofInts_byt zs hz i hi']
    simp [World.cell?, hh, List.getD_eq_getElem?_getD, hi']
  have := conv_head hby zs.length zs.length (by rw [ofInts_size]; exact Nat.le_refl _)
  rw [this]
  congr 2
  rw [← ofInts_size zs]
  exact ext_all _
set_option maxRecDepth 100000 in
set_option maxHeartbeats 4000000 in
theorem numbered_any (base : Nat) (hb : base = 10 ∨ base = 16) (s : ByteArray) (h0 : 0 < s.size) (h7 : s.size ≤ 7) (hall : ∀ i, i < s.size → pOf base (byt s i) = true) (w : World) :
    Calls Tryz.prog 137 #[.string s, .int .i64 base] w fun e w' => e = .returned (.int .i32 (scal (numV base s))) ∧ Below w.heap.size w w' := by
  have HPI := hid (sparseInt_any base hb s h0 h7 hall w)
  obtain ⟨hv0, hv1⟩ := num_small base hb s h7 hall
  have hn : numV base s = numL base (intsOf s) := rfl
  rw [hn]
  clear hall h0 h7 hb hn
  generalize numL base (intsOf s) = v at *
  have hpb := put_broken v
  go_enter Tryz.func137, Tryz.ntmps137
  go_wp2_with fail
  refine HPI.out.mono ?_
  rintro e w2 ⟨rfl, hb2⟩
  have HB2 := hid hb2
  clear hb2 HPI
  by_cases hz : v = 0
  · subst hz
    have HR := hid (show scal 0 = 65533 from rfl)
    clear hpb
    go_wp2_with fail
    go_quiet (fail)
    go_wp2_with fail
    go_ret
    exact ⟨ret_int HR.out.symm, HB2.out.trans (below_drewN _ _ _)⟩
  · have hzb : (v == 0) = false := by simpa using hz
    have hput := fun (r : Int) (W : World) => put_any r W
    have HPUT := hid hput
    have hM := putF_mem
    have HM := hid hM
    have hbd : Below w2.heap.size w2 w2.drew := ⟨rfl, rfl, rfl, Nat.le_refl _, fun _ _ => rfl⟩
    have HBD := hid hbd
    clear hput hM hbd
    obtain ⟨q, hq⟩ : ∃ q, q = decide (ofInts (putF v) = ofInts (putF 65533)) := ⟨_, rfl⟩
    have hteq : ((ofInts (putF v)).toList == (ofInts (putF 65533)).toList) = q := by rw [str_beq, hq]
    have hres : scal v = if q then 65533 else v := by
      unfold scal
      cases hqv : q
      · rw [hqv] at hq
        have := of_decide_eq_false hq.symm
        rw [hpb] at this
        rw [if_neg (fun h => h.elim hz fun h => this (.inl h)), if_neg (by decide)]
      · rw [hqv] at hq
        have := of_decide_eq_true hq.symm
        rw [hpb] at this
        rw [if_pos rfl]
        rcases this with h | h
        · rw [if_pos (.inr h)]
        · subst h
          split <;> rfl
    have HRES := hid hres
    generalize hz1 : ofInts (putF v) = z1 at *
    generalize hz2 : ofInts (putF 65533) = z2 at *
    have HZ1 := hid hz1
    have HZ2 := hid hz2
    clear hz1 hz2 hpb hq hres
    go_upto_region 3 with fail
    go_region_with (first
      | (go_at_call 185; refine (HPUT.out _ _).mono ?_; rintro e w6 ⟨v6, rfl, hn6, hb6⟩; have hb56 := HB5.out.trans (hb6.mono HB5.out.size); have hc6 := conv_new hn6 (HM.out _) w6 (Below.refl _ _); rw [HZ2.out] at hc6; have hc7 := conv_new HN5.out (HM.out _) w6 hb6; rw [HZ1.out] at hc7; have HB6 := hid hb56; clear hb6 hb56 hn6)
      | (go_at_call 185; refine (HPUT.out _ _).mono ?_; rintro e w5 ⟨v5, rfl, hn5, hb5⟩; have hb45 := HBD.out.trans hb5; have hc5 := conv_new hn5 (HM.out _) w5 (Below.refl _ _); rw [HZ1.out] at hc5; have HN5 := hid hn5; have HB5 := hid hb45; clear hb5 hb45 hn5))
    all_goals
      cases q
      · go_wp2_with fail
        go_ret
        exact ⟨by rw [HRES.out]; rfl, HB2.out.trans (HB6.out.mono HB2.out.size)⟩
      · go_wp2_with fail
        go_ret
        exact ⟨by rw [HRES.out]; rfl, HB2.out.trans (HB6.out.mono HB2.out.size)⟩

end Go.Proofs.YtpnbkecchfhimaaGreatDoor

/- out of EnL -/
namespace Go.Proofs.YtpnbkecchfhimaaGreatDoor
set_option maxRecDepth 100000
open Go.RowKit
open Go.Shelf
open Go.Lib (hid)
set_option linter.unusedVariables false

/-- What a form's bytes are like. -/
theorem fm_facts (t : ByteArray) (h0 : 0 < t.size) : (fmOf t).skip ≤ runE t ∧ runE t ≤ t.size ∧ runE t - (fmOf t).skip ≤ 7 ∧ (fmOf t).skip ≤ 3 ∧
    ((fmOf t).base ≠ 0 → ((fmOf t).base = 10 ∨ (fmOf t).base = 16) ∧ ∀ i, i < (t.extract (fmOf t).skip (runE t)).size → pOf (fmOf t).base (byt (t.extract (fmOf t).skip (runE t)) i) = true) := by
  have hge := runTo_ge (fmOf t).p t (fmOf t).most (fmOf t).skip
  change _ ≤ runE t ∧ runE t ≤ _ at hge
  have hle : runE t ≤ t.size := by
    rcases fm_cases t with ⟨hf, k1, k2, k3⟩ | ⟨hf, k1, k2, k3⟩ | ⟨hf, k1⟩
    all_goals
      rw [fm_eq hf]
      exact runTo_le _ t _ _ (by first | exact k1 | exact h0)
  have hall := fun j => runTo_all (fmOf t).p t (fmOf t).most (fmOf t).skip j
  change ∀ j, _ → j < runE t → _ at hall
  have hd : ∀ i, i < (t.extract (fmOf t).skip (runE t)).size → (fmOf t).p (byt (t.extract (fmOf t).skip (runE t)) i) = true := fun i hi => by
    rw [ByteArray.size_extract] at hi
    rw [byt_extract t _ _ i (by omega) hle]
    exact (hall _ (by omega) (by omega)).2
  rcases fm_cases t with ⟨hf, k1, k2, k3⟩ | ⟨hf, k1, k2, k3⟩ | ⟨hf, k1⟩
  · rw [hf] at hge hd ⊢
    have h2 := hge.2
    simp only [fmHex] at h2
    refine ⟨hge.1, hle, ?_, Nat.le_refl 3, fun _ => ⟨.inr rfl, fun i hi => ?_⟩⟩
    · simp only [fmHex]; omega
    · have := hd i hi
      rw [fp_hex] at this
      exact this
  · rw [hf] at hge hd ⊢
    have h2 := hge.2
    simp only [fmDec] at h2
    refine ⟨hge.1, hle, ?_, by decide, fun _ => ⟨.inl rfl, fun i hi => ?_⟩⟩
    · simp only [fmDec]; omega
    · have := hd i hi
      rw [fp_dec] at this
      exact this
  · rw [hf] at hge ⊢
    have h2 := hge.2
    simp only [fmLet] at h2
    refine ⟨hge.1, hle, ?_, by decide, fun h => absurd rfl h⟩
    simp only [fmLet]; omega

set_option maxRecDepth 100000 in
set_option maxHeartbeats 8000000 in
theorem entread_any (a : Option Addr) (n cap : Nat) (i : Int) (s : ByteArray) (w : World) (hb : BA w a n cap s) (hm : n ≤ 1000000) (hi63 : i ≤ 9223372036854775807) :
    Calls Tryz.prog 96 #[.slice a n cap, .int .i64 i] w fun e w' => e = .returned (pairV (entR s i)) ∧ Below w.heap.size w w' := by
  have hns := hb.1
  by_cases h0 : i < 0
  · have HR := hid (show entR s i = none from if_neg fun h => by omega)
    clear hb
    go_enter Tryz.func96, Tryz.ntmps96
    go_wp2_with fail
    go_ret2
    rw [HR.out]
    exact ⟨rfl, Below.refl _ _⟩
  by_cases h1 : (n : Int) ≤ i
  · have HR := hid (show entR s i = none from if_neg fun h => by omega)
    clear hb
    go_enter Tryz.func96, Tryz.ntmps96
    go_wp2_with fail
    go_ret2
    rw [HR.out]
    exact ⟨rfl, Below.refl _ _⟩
  obtain ⟨i, rfl⟩ : ∃ k : Nat, i = k := ⟨i.toNat, by omega⟩
  have hin : i < n := by omega
  have hcap := hb.2.1
  have hc63 := hb.2.2.1
  obtain ⟨b, off, rfl, hbl, hz⟩ := hb.2.2.2 (by omega)
  have hcell := bytes_cell hz (i := i) (by omega)
  by_cases h38 : byt s i ≠ 38
  · have HR := hid (show entR s i = none from if_neg fun h => h38 h.2.2)
    generalize byt s i = c at *
    have hcb : (c == 38) = false := by simpa using h38
    have hcb2 : (c != 38) = true := by simpa using h38
    have HNS := hid hns
    clear hb hz h38 hns
    go_enter Tryz.func96, Tryz.ntmps96
    go_wp2_with fail
    go_ret2
    rw [HR.out]
    exact ⟨rfl, Below.refl _ _⟩
  have h38 : byt s i = 38 := Classical.byContradiction h38
  rw [h38] at hcell
  have hent : entR s i = entH (s.extract i s.size) := if_pos ⟨by omega, by omega, h38⟩
  obtain ⟨m, hmd⟩ : ∃ m, m = n - i := ⟨_, rfl⟩
  have hsl := slice_tail b off n cap i (by omega) hcap
  rw [show offIf cap i off = off + i from if_neg (by omega), ← hmd] at hsl
  have hzt : ∀ W, Below w.heap.size w W → Lib.Bytes W b (off + i) (s.extract i s.size) := fun W hW => bytes_of_byt fun j hj => by
    rw [ByteArray.size_extract] at hj
    rw [hW.cell (p := ⟨b, _, none⟩) hbl, Nat.add_assoc, bytes_cell hz (i := i + j) (by omega), byt_extract s i s.size j (by omega) (Nat.le_refl _)]
  have hts : (s.extract i s.size).size = m := by rw [ByteArray.size_extract]; omega
  have ht38 : byt (s.extract i s.size) 0 = 38 := by rw [byt_extract s i s.size 0 (by omega) (Nat.le_refl _)]; exact h38
  generalize s.extract i s.size = t at *
  obtain ⟨cp, hcp⟩ : ∃ cp, cp = cap - i := ⟨_, rfl⟩
  rw [← hcp] at hsl
  have hmcp : m ≤ cp := by omega
  have hm0 : 0 < m := by omega
  have hm6 : m ≤ 1000000 := by omega
  have HFO := hid (formOf_any b (off + i) m cp t w hts.symm hmcp hm0 hm6 (hzt w (Below.refl _ _)) hbl ht38)
  have hrun := fun W (hW : Below w.heap.size w W) => run_any b (off + i) m cp t W hts.symm hmcp hm0 hm6 (hzt W hW) (Nat.lt_of_lt_of_le hbl hW.size)
  have hff := fm_facts t (by omega)
  have hEH : entH t = if runE t = (fmOf t).skip ∨ m ≤ runE t ∨ byt t (runE t) ≠ 59 then none
      else if (fmOf t).base = 0 then (findN (t.extract (fmOf t).skip (runE t))).map fun r => (r, runE t + 1)
      else some (scal (numV (fmOf t).base (t.extract (fmOf t).skip (runE t))), runE t + 1) := by unfold entH; rw [hts]
  have hfmV : fmV (fmOf t) = #[.int .i64 (fmOf t).skip, .int .i64 (fmOf t).most, .func (.func (gOf (fmOf t))) #[] #[], .int .i64 (fmOf t).base] := rfl
  rw [hfmV] at HFO hrun
  generalize gOf (fmOf t) = gf at *
  generalize (fmOf t).most = mo at *
  generalize hba : (fmOf t).base = ba at *
  generalize (fmOf t).skip = sk at *
  clear hba
  obtain ⟨f1, f2, f3, f4, f5⟩ := hff
  rw [hEH] at hent
  generalize runE t = e at *
  have HENT := hid hent
  have HZT := hid hzt
  have HTS := hid hts
  have HRUN := hid hrun
  have HF5 := hid f5
  have HNS := hid hns
  clear hent hzt hts hrun f5 hEH hfmV hb hz hmd hcp hns
  go_enter Tryz.func96, Tryz.ntmps96
  go_wp2_with fail
  refine HFO.out.mono ?_
  rintro e2 w2 ⟨rfl, hb2⟩
  go_upto_region 5 with ((with_reducible refine wpList_store_row (o := ⟨none, .store 209 (.tmp 6) (.tmp 31), _, _, _, _⟩) rfl 209 _ _ rfl w2.heap.size #[.int .i64 sk, .int .i64 mo, .func (.func gf) #[] #[], .int .i64 ba] rfl rfl 209 #[.int .i64 0, .int .i64 0, .nilFunc, .int .i64 0] (heap_alloc_new _ _) (by kernel_rfl) (by kernel_rfl) (by kernel_rfl) ?_))
  have hr3 : Blk ((w2.alloc (.cells #[.int .i64 0, .int .i64 0, .nilFunc, .int .i64 0] 209)).setRow w2.heap.size #[.int .i64 sk, .int .i64 mo, .func (.func gf) #[] #[], .int .i64 ba]) w2.heap.size 209 #[.int .i64 sk, .int .i64 mo, .func (.func gf) #[] #[], .int .i64 ba] := setRow_heap _ _ _ _ _ _ (heap_alloc_new w2 _)
  have hb3 : Below w.heap.size w ((w2.alloc (.cells #[.int .i64 0, .int .i64 0, .nilFunc, .int .i64 0] 209)).setRow w2.heap.size #[.int .i64 sk, .int .i64 mo, .func (.func gf) #[] #[], .int .i64 ba]) := by
    have hg := hb2.size
    refine hb2.trans ?_
    exact ⟨rfl, rfl, rfl, by simp, fun k hk => by rw [setRow_other _ _ _ _ (by omega)]; exact Below.heap_alloc _ _ _ (by omega)⟩
  generalize (w2.alloc (.cells #[.int .i64 0, .int .i64 0, .nilFunc, .int .i64 0] 209)).setRow w2.heap.size #[.int .i64 sk, .int .i64 mo, .func (.func gf) #[] #[], .int .i64 ba] = w3 at *
  have k0 := hr3.cell 0
  have k1 := hr3.cell 1
  have k2 := hr3.cell 2
  have k3 := hr3.cell 3
  simp only [List.getElem?_toArray, List.getElem?_cons_zero, List.getElem?_cons_succ] at k0 k1 k2 k3
  have HB3 := hid hb3
  have HR3 := hid hr3
  have HRN := hid (HRUN.out w3 hb3)
  clear hb3 hr3 hb2 hsl hcell h38
  go_wp2_with fail
  refine HRN.out.mono ?_
  rintro e2 w4 ⟨rfl, hb4⟩
  have hr4 := HR3.out.below hb4 HR3.out.lt
  have HB4 := hid (HB3.out.trans (hb4.mono HB3.out.size))
  have k0 := hr4.cell 0
  have k1 := hr4.cell 1
  have k3 := hr4.cell 3
  simp only [List.getElem?_toArray, List.getElem?_cons_zero, List.getElem?_cons_succ] at k0 k1 k3
  obtain ⟨k, hk⟩ : ∃ k, k = e - sk := ⟨_, rfl⟩
  rw [← hk]
  have HK7 := hid (show k ≤ 7 by omega)
  have hke : (sk : Int) + (k : Int) = (e : Int) := by omega
  have hwe : IntKind.i64.wrap (e : Int) = (e : Int) := IntWalk.i64_in _ (by have := HTS.out; omega)
  have HK := hid hk
  clear hk hb4 hr4 HRN HRUN HFO
  have hzt4 := HZT.out w4 HB4.out
  have hn0 : ∀ q : Option (Int × Nat), q = none → pairV q = .tuple #[.int .i32 0, .int .i64 0] := fun q h => by rw [h]; rfl
  have HN0 := hid hn0
  clear hn0
  by_cases hk0 : k = 0
  · subst hk0
    have HR := hid (HN0.out _ (HENT.out.trans (if_pos (.inl (by have := HK.out; omega)))))
    clear hzt4
    go_wp2_with fail
    go_ret2
    rw [HR.out]
    exact ⟨rfl, HB4.out⟩
  have HK0 := hid (show 0 < k by omega)
  have hk0b : ((k : Int) == 0) = false := by rw [beq_eq_false_iff_ne]; omega
  by_cases hme : m ≤ e
  · have hme' : (m : Int) ≤ (e : Int) := by omega
    have HR := hid (HN0.out _ (HENT.out.trans (if_pos (.inr (.inl hme)))))
    clear hzt4
    go_wp2_with fail
    go_ret2
    rw [HR.out]
    exact ⟨rfl, HB4.out⟩
  have hme' : ¬ (m : Int) ≤ (e : Int) := by omega
  have hem : (e : Int) < (m : Int) := by omega
  have hce := bytes_cell hzt4 (i := e) (by have := HTS.out; omega)
  by_cases h59 : byt t e ≠ 59
  · have HR := hid (HN0.out _ (HENT.out.trans (if_pos (.inr (.inr h59)))))
    generalize byt t e = ce at *
    have hcb : (ce == 59) = false := by simpa using h59
    have hcb2 : (ce != 59) = true := by simpa using h59
    clear hzt4 h59
    go_wp2_with fail
    go_ret2
    rw [HR.out]
    exact ⟨rfl, HB4.out⟩
  have h59 : byt t e = 59 := Classical.byContradiction h59
  have hent := HENT.out
  rw [if_neg (fun h => by rcases h with h | h | h; (· have := HK.out; omega); (· exact hme h); (· exact h h59))] at hent
  rw [h59] at hce
  have hsl := fun W => slice_row b (off + i) m cp sk e f1 (by omega) (by omega) W
  have hcv := conv_sub hzt4 sk e (cp - sk) f1 f2
  have hxz : (t.extract sk e).size = k := by have := HK.out; rw [ByteArray.size_extract]; omega
  have hf5 := HF5.out
  generalize t.extract sk e = x at *
  have HENT2 := hid hent
  have HXZ := hid hxz
  have HF6 := hid hf5
  clear hent hxz hf5 hzt4 h59 HENT HF5 hk0
  have he1 : ((e + 1 : Nat) : Int) = (e : Int) + 1 := by omega
  by_cases hba : ba = 0
  · subst hba
    have hent2 := HENT2.out
    rw [if_pos rfl] at hent2
    have hfi := fun W => find_any x W
    cases hf : findN x with
    | none =>
      rw [hf] at hent2 hfi
      have HR := hid (HN0.out _ hent2)
      have HFI := hid hfi
      clear hent2 hfi hf
      go_wp2_with fail
      refine (HFI.out _).mono ?_
      rintro e2 w5 ⟨rfl, hb5⟩
      have HB5 := hid (HB4.out.trans (hb5.mono HB4.out.size))
      clear hb5
      go_wp2_with fail
      go_ret2
      rw [HR.out]
      exact ⟨rfl, HB5.out⟩
    | some r =>
      rw [hf] at hent2 hfi
      have HR := hid (show pairV (entR s i) = .tuple #[.int .i32 r, .int .i64 ((e : Int) + 1)] by rw [hent2]; rfl)
      have HFI := hid hfi
      clear hent2 hfi hf
      go_wp2_with fail
      refine (HFI.out _).mono ?_
      rintro e2 w5 ⟨rfl, hb5⟩
      have HB5 := hid (HB4.out.trans (hb5.mono HB4.out.size))
      clear hb5
      go_wp2_with fail
      go_ret2
      rw [HR.out]
      exact ⟨rfl, HB5.out⟩
  · have hent2 := HENT2.out
    rw [if_neg hba] at hent2
    obtain ⟨hb1, hb2⟩ := HF6.out hba
    have hnu := fun W => numbered_any ba hb1 x (by have := HXZ.out; have := HK0.out; omega) (by have := HXZ.out; have := HK7.out; omega) hb2 W
    have hba0 : (0 : Int) < (ba : Int) := by omega
    generalize scal (numV (ba : Int) x) = r at *
    have HR := hid (show pairV (entR s i) = .tuple #[.int .i32 r, .int .i64 ((e : Int) + 1)] by rw [hent2]; rfl)
    have HNU := hid hnu
    clear hent2 hnu hb1 hb2 hba
    go_wp2_with fail
    refine (HNU.out _).mono ?_
    rintro e2 w5 ⟨rfl, hb5⟩
    have HB5 := hid (HB4.out.trans (hb5.mono HB4.out.size))
    clear hb5
    go_wp2_with fail
    go_ret2
    rw [HR.out]
    exact ⟨rfl, HB5.out⟩

end Go.Proofs.YtpnbkecchfhimaaGreatDoor
