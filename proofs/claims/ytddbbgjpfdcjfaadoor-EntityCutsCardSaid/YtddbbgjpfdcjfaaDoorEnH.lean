/- Chapter 16: how a reference goes on: walks. -/
import Derived.Test.YtddbbgjpfdcjfaaDoorEnG
namespace Go.Proofs.YtddbbgjpfdcjfaaDoor
open Go.RowKit
open Go.Shelf
open Go.Lib (hid)
set_option linter.unusedVariables false

def gOf (f : Fm) : Nat := if f.base = 0 then 35 else if f.base = 10 then 34 else 33
def fnV (f : Fm) : Value := .func (.func (gOf f)) #[] #[]
def fmV (f : Fm) : Array Value := #[.int .i64 f.skip, .int .i64 f.most, fnV f, .int .i64 f.base]
theorem slice_head (b off n cap k : Nat) (hk : k ≤ cap) (W : World) (h0 : 0 < k) : (Instr.slice 22 (.slice (some ⟨b, off, none⟩) n cap) none (some (.int .i64 k)) none).run Tryd.prog W = .ok (.slice (some ⟨b, off, none⟩) k cap) W := by
  rw [run_slice_h (P := Tryd.prog) W 22 _ n cap rfl .i64 k (by omega) (by omega)]
  have hs : (sizeOf (Tryd.prog.elem 22)).run Tryd.prog W = .ok 1 W := by go_simp
  rw [hs]
  have hc : ¬ cap = 0 := by omega
  simp [Result.andThen, sliced, hc, Addr.add]
theorem conv_head {W : World} {b off : Nat} {s : ByteArray} (hz : Lib.Bytes W b off s) (k c : Nat) (h2 : k ≤ s.size) : (convert 22 9 (.slice (some ⟨b, off, none⟩) k c)).run Tryd.prog W = .ok (.string (s.extract 0 k)) W := by
  have := Lib.run_convert_window (P := Tryd.prog) W 22 5 9 Tryd.underlying22 Tryd.underlying5 Tryd.underlying9 b off s hz 0 k c (by omega)
  rw [Nat.zero_add, Nat.add_zero] at this
  exact this
theorem pre3 (s : ByteArray) (c : UInt8) (h0 : 0 < s.size) (h38 : byt s 0 = 38) : preB (s.extract 0 (min s.size 3)) ⟨#[38, 35, c]⟩ = decide (3 ≤ s.size ∧ byt s 1 = 35 ∧ byt s 2 = (c.toNat : Int)) := by
  rw [Bool.eq_iff_iff, preB_iff, decide_eq_true_iff, ByteArray.size_extract]
  show 3 ≤ _ ∧ (∀ i, i < 3 → _) ↔ _
  constructor
  · rintro ⟨h1, h2⟩
    have h3 : 3 ≤ s.size := by omega
    have e1 := h2 1 (by decide)
    have e2 := h2 2 (by decide)
    rw [byt_ext0 _ (by omega) (by omega)] at e1 e2
    exact ⟨h3, e1, e2⟩
  · rintro ⟨h1, h2, h3⟩
    refine ⟨by omega, fun i hi => ?_⟩
    rw [byt_ext0 _ (by omega) (by omega)]
    have : i = 0 ∨ i = 1 ∨ i = 2 := by omega
    rcases this with rfl | rfl | rfl
    · exact h38
    · exact h2
    · exact h3
theorem pre2 (s : ByteArray) (h0 : 0 < s.size) (h38 : byt s 0 = 38) : preB (s.extract 0 (min s.size 3)) ⟨#[38, 35]⟩ = decide (2 ≤ s.size ∧ byt s 1 = 35) := by
  rw [Bool.eq_iff_iff, preB_iff, decide_eq_true_iff, ByteArray.size_extract]
  show 2 ≤ _ ∧ (∀ i, i < 2 → _) ↔ _
  constructor
  · rintro ⟨h1, h2⟩
    have h3 : 2 ≤ s.size := by omega
    have e1 := h2 1 (by decide)
    rw [byt_ext0 _ (by omega) (by omega)] at e1
    exact ⟨h3, e1⟩
  · rintro ⟨h1, h2⟩
    refine ⟨by omega, fun i hi => ?_⟩
    rw [byt_ext0 _ (by omega) (by omega)]
    have : i = 0 ∨ i = 1 := by omega
    rcases this with rfl | rfl
    · exact h38
    · exact h2

set_option maxRecDepth 100000 in
set_option maxHeartbeats 8000000 in
theorem formOf_any (b off n cap : Nat) (s : ByteArray) (w : World) (hn : n = s.size) (hcap : n ≤ cap) (h0 : 0 < n) (hm : n ≤ 1000000) (hz : Lib.Bytes w b off s) (hbl : b < w.heap.size) (h38 : byt s 0 = 38) :
    Calls Tryd.prog 19 #[.slice (some ⟨b, off, none⟩) n cap] w fun e w' => e = .returned (.agg (fmV (fmOf s))) ∧ Below w.heap.size w w' := by
  subst hn
  obtain ⟨k, hk⟩ : ∃ k, k = min s.size 3 := ⟨_, rfl⟩
  have hmin : min (s.size : Int) 3 = (k : Int) := by omega
  have hsl := fun W => slice_head b off s.size cap k (by omega) W (by omega)
  have hcv : ∀ W, Below w.heap.size w W → (convert 22 9 (.slice (some ⟨b, off, none⟩) k cap)).run Tryd.prog W = .ok (.string (s.extract 0 k)) W := fun W hW => conv_head (Bytes.keepAt hz fun q => hW.cell (p := ⟨b, q, none⟩) hbl) k cap (by omega)
  have hx := pre3 s 120 h0 h38
  have hX := pre3 s 88 h0 h38
  have hd := pre2 s h0 h38
  rw [← hk] at hx hX hd
  have hkz : (s.extract 0 k).size ≤ 9223372036854775807 := by rw [ByteArray.size_extract]; omega
  have hcv0 := hcv (w.alloc (.cells #[.int .i64 0, .int .i64 0, .nilFunc, .int .i64 0] 43)) ((Below.refl _ _).alloc (Nat.le_refl _) _)
  generalize s.extract 0 k = t at *
  have h1 := fun W => hasprefix_any t ⟨#[38, 35, 120]⟩ W hkz (by decide)
  have h2 := fun W => hasprefix_any t ⟨#[38, 35, 88]⟩ W hkz (by decide)
  have h3 := fun W => hasprefix_any t ⟨#[38, 35]⟩ W hkz (by decide)
  rw [hx] at h1
  rw [hX] at h2
  rw [hd] at h3
  have H1 := hid h1
  have H2 := hid h2
  have H3 := hid h3
  clear hx hX hd hk h1 h2 h3
  have hfc := fm_cases s
  generalize hp1 : decide (3 ≤ s.size ∧ byt s 1 = 35 ∧ byt s 2 = ((120 : UInt8).toNat : Int)) = p1 at *
  generalize hp2 : decide (3 ≤ s.size ∧ byt s 1 = 35 ∧ byt s 2 = ((88 : UInt8).toNat : Int)) = p2 at *
  generalize hp3 : decide (2 ≤ s.size ∧ byt s 1 = 35) = p3 at *
  have hres : fmOf s = if p1 || p2 then fmHex else if p3 then fmDec else fmLet := by
    subst hp1 hp2 hp3
    rcases hfc with ⟨hf, k1, k2, k3⟩ | ⟨hf, k1, k2, k3⟩ | ⟨hf, k1⟩
    · rw [hf, if_pos]
      rw [Bool.or_eq_true, decide_eq_true_iff, decide_eq_true_iff]
      exact k3.elim (fun h => .inl ⟨k1, k2, h⟩) fun h => .inr ⟨k1, k2, h⟩
    · rw [hf, if_neg, if_pos (decide_eq_true ⟨k1, k2⟩)]
      rw [Bool.or_eq_true, decide_eq_true_iff, decide_eq_true_iff]
      rintro (h | h)
      · exact k3 ⟨h.1, .inl h.2.2⟩
      · exact k3 ⟨h.1, .inr h.2.2⟩
    · rw [hf, if_neg, if_neg (by rw [decide_eq_true_iff]; exact k1)]
      rw [Bool.or_eq_true, decide_eq_true_iff, decide_eq_true_iff]
      rintro (h | h)
      · exact k1 ⟨by omega, h.2.1⟩
      · exact k1 ⟨by omega, h.2.1⟩
  have HRES := hid hres
  have hnw := Blk.new w 43 #[.int .i64 0, .int .i64 0, .nilFunc, .int .i64 0]
  have hbw : Below w.heap.size w (w.alloc (.cells #[.int .i64 0, .int .i64 0, .nilFunc, .int .i64 0] 43)) := (Below.refl _ _).alloc (Nat.le_refl _) _
  have HNW := hid hnw
  have HBW := hid hbw
  have HFIN := hid (fun (f : Fm) (w1 : World) (h1 : Blk w1 w.heap.size 43 #[.int .i64 0, .int .i64 0, .nilFunc, .int .i64 0]) (h2 : Below w.heap.size w w1) => (⟨setRow_heap w1 w.heap.size _ (fmV f) _ _ h1, ⟨by simpa using h2.os, by simpa using h2.tape, by simpa using h2.output, by simpa using h2.size, fun k hk => by rw [setRow_other _ _ _ _ (by omega)]; exact h2.block k hk⟩⟩ : (w1.setRow w.heap.size (fmV f)).heap[w.heap.size]? = some (.cells (fmV f) 43 (0, 0)) ∧ Below w.heap.size w (w1.setRow w.heap.size (fmV f))))
  clear hp1 hp2 hp3 hfc hres hnw hbw hcv
  go_enter Tryd.func19, Tryd.ntmps19
  go_upto_region 1 with fail
  generalize w.alloc (.cells #[.int .i64 0, .int .i64 0, .nilFunc, .int .i64 0] 43) = w1 at *
  go_wp2_with fail
  refine (H1.out _).mono ?_
  rintro e w2 ⟨rfl, hw2⟩
  obtain rfl : w1 = w2 := hw2.symm
  cases p1
  · go_wp2_with fail
    refine (H2.out _).mono ?_
    rintro e w2 ⟨rfl, hw2⟩
    obtain rfl : w1 = w2 := hw2.symm
    cases p2
    · go_wp2_with fail
      refine (H3.out _).mono ?_
      rintro e w2 ⟨rfl, hw2⟩
      obtain rfl : w1 = w2 := hw2.symm
      cases p3
      · obtain ⟨HF1, HF2⟩ := HFIN.out fmLet w1 HNW.out HBW.out
        go_wp2_with (refine wpList_store_row rfl 43 (.tmp 2) (.tmp 22) rfl w.heap.size (fmV fmLet) rfl rfl 43 _ HNW.out (by kernel_rfl) (by kernel_rfl) (by kernel_rfl) ?_)
        refine bodyPost_ret (v := .agg (fmV fmLet)) (results_cell_row rfl _ _ w.heap.size _ _ _ _ rfl HF1 Tryd.underlying43 rfl (by kernel_rfl)) rfl ⟨by rw [HRES.out]; rfl, HF2⟩
      · obtain ⟨HF1, HF2⟩ := HFIN.out fmDec w1 HNW.out HBW.out
        go_wp2_with (refine wpList_store_row rfl 43 (.tmp 2) (.tmp 21) rfl w.heap.size (fmV fmDec) rfl rfl 43 _ HNW.out (by kernel_rfl) (by kernel_rfl) (by kernel_rfl) ?_)
        refine bodyPost_ret (v := .agg (fmV fmDec)) (results_cell_row rfl _ _ w.heap.size _ _ _ _ rfl HF1 Tryd.underlying43 rfl (by kernel_rfl)) rfl ⟨by rw [HRES.out]; rfl, HF2⟩
    · obtain ⟨HF1, HF2⟩ := HFIN.out fmHex w1 HNW.out HBW.out
      go_wp2_with (refine wpList_store_row rfl 43 (.tmp 2) (.tmp 17) rfl w.heap.size (fmV fmHex) rfl rfl 43 _ HNW.out (by kernel_rfl) (by kernel_rfl) (by kernel_rfl) ?_)
      refine bodyPost_ret (v := .agg (fmV fmHex)) (results_cell_row rfl _ _ w.heap.size _ _ _ _ rfl HF1 Tryd.underlying43 rfl (by kernel_rfl)) rfl ⟨by rw [HRES.out]; rfl, HF2⟩
  · obtain ⟨HF1, HF2⟩ := HFIN.out fmHex w1 HNW.out HBW.out
    go_wp2_with (refine wpList_store_row rfl 43 (.tmp 2) (.tmp 17) rfl w.heap.size (fmV fmHex) rfl rfl 43 _ HNW.out (by kernel_rfl) (by kernel_rfl) (by kernel_rfl) ?_)
    refine bodyPost_ret (v := .agg (fmV fmHex)) (results_cell_row rfl _ _ w.heap.size _ _ _ _ rfl HF1 Tryd.underlying43 rfl (by kernel_rfl)) rfl ⟨by rw [HRES.out]; rfl, HF2⟩
end Go.Proofs.YtddbbgjpfdcjfaaDoor
