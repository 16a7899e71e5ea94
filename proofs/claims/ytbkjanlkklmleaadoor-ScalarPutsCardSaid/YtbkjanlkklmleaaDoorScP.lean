/- Chapter 01: a scalar's text, and back: the plain law. -/
import Derived.Test.YtbkjanlkklmleaaDoorHx1
import Derived.Test.YtbkjanlkklmleaaDoorPiP
namespace Go.Proofs.YtbkjanlkklmleaaDoor
open Go.RowKit
open Hx
set_option linter.unusedVariables false

def scR (r : Int) : Bool := decide (0 ≤ r) && decide (r ≤ 1114111) && (decide (r < 55296) || decide (57343 < r))
theorem scR_bd {r : Int} (h : scR r = true) : 0 ≤ r ∧ r ≤ 1114111 ∧ (r < 55296 ∨ 57343 < r) := by
  simp [scR] at h
  omega
/-- A great digit. -/
def dU (c : Int) : Bool := (decide (48 ≤ c) && decide (c ≤ 57)) || (decide (65 ≤ c) && decide (c ≤ 70))
theorem dU_dxP {c : Int} (h : dU c = true) : dxP c = true := by
  unfold dU at h
  unfold dxP
  simp only [Bool.or_eq_true, Bool.and_eq_true, decide_eq_true_iff] at *
  omega
def iv (l : List UInt8) : List Int := l.map fun b => (b.toNat : Int)
theorem ints_mkB (l : List UInt8) : intsOf (mkB l) = iv l := by simp [intsOf, mkB, iv]
theorem iv_append (l k : List UInt8) : iv (l ++ k) = iv l ++ iv k := List.map_append
def nvB (l : List UInt8) : Nat := (dxN (iv l)).toNat
theorem dgU_ok : ∀ k : Fin 16, dU ((dgU k.val).toNat : Int) = true ∧ dxV ((dgU k.val).toNat : Int) = k.val := by decide +kernel
theorem dU_dg : ∀ k : Fin 256, dU (k.val : Int) = true → 0 ≤ dxV (k.val : Int) ∧ dxV (k.val : Int) < 16 ∧ dgU (dxV (k.val : Int)).toNat = UInt8.ofNat k.val := by decide +kernel
theorem dU_dgB (b : UInt8) (h : dU (b.toNat : Int) = true) : 0 ≤ dxV (b.toNat : Int) ∧ dxV (b.toNat : Int) < 16 ∧ dgU (dxV (b.toNat : Int)).toNat = b := by
  have := dU_dg ⟨b.toNat, b.toNat_lt⟩ h
  simpa using this
theorem hexU_one {u : Nat} (h : u < 16) : hexU u = [dgU u] := by
  unfold hexU
  rw [hexD, dif_pos h]
  rfl
theorem hexU_more {u : Nat} (h : ¬ u < 16) : hexU u = hexU (u / 16) ++ [dgU (u % 16)] := by
  unfold hexU
  rw [hexD, dif_neg h, toUpperA_append]
  rfl
theorem hexU_val : ∀ (f u : Nat), u ≤ f → dxN (iv (hexU u)) = u ∧ ∀ b ∈ hexU u, dU (b.toNat : Int) = true := by
  intro f
  induction f with
  | zero =>
    intro u hu
    obtain rfl : u = 0 := by omega
    rw [hexU_one (by decide)]
    exact ⟨by decide, fun b hb => by rw [List.mem_singleton.1 hb]; decide⟩
  | succ f ih =>
    intro u hu
    by_cases h : u < 16
    · rw [hexU_one h]
      obtain ⟨k1, k2⟩ := dgU_ok ⟨u, h⟩
      simp only at k1 k2
      refine ⟨?_, fun b hb => by rw [List.mem_singleton.1 hb]; exact k1⟩
      show 0 * 16 + dxV _ = _
      rw [k2]
      omega
    · rw [hexU_more h]
      obtain ⟨i1, i2⟩ := ih (u / 16) (by omega)
      obtain ⟨k1, k2⟩ := dgU_ok ⟨u % 16, by omega⟩
      simp only at k1 k2
      refine ⟨?_, fun b hb => ?_⟩
      · rw [iv_append]
        show dxN (iv (hexU (u / 16)) ++ [((dgU (u % 16)).toNat : Int)]) = _
        rw [dxN_snoc, i1, k2]
        omega
      · rcases List.mem_append.1 hb with hb | hb
        · exact i2 b hb
        · rw [List.mem_singleton.1 hb]; exact k1
theorem dxN_zero (l : List Int) : dxN (48 :: l) = dxN l := by
  unfold dxN
  rw [List.foldl_cons]
  rfl
theorem dxN_zeros (k : Nat) (l : List UInt8) : dxN (iv (List.replicate k 48 ++ l)) = dxN (iv l) := by
  induction k with
  | zero => rfl
  | succ k ih =>
    rw [List.replicate_succ, List.cons_append]
    show dxN (48 :: iv (List.replicate k 48 ++ l)) = _
    rw [dxN_zero, ih]
theorem hex4U_val (u : Nat) : dxN (iv (hex4U u)) = u := by
  unfold hex4U
  rw [dxN_zeros]
  exact (hexU_val u u (Nat.le_refl _)).1
theorem hex4U_dU (u : Nat) : ∀ b ∈ hex4U u, dU (b.toNat : Int) = true := by
  intro b hb
  unfold hex4U at hb
  rcases List.mem_append.1 hb with hb | hb
  · rw [(List.mem_replicate.1 hb).2]; decide
  · exact (hexU_val u u (Nat.le_refl _)).2 b hb
theorem hex4U_inj {u v : Nat} (h : hex4U u = hex4U v) : u = v := by
  have h1 := hex4U_val u
  have h2 := hex4U_val v
  rw [h, h2] at h1
  omega
theorem hex4U_len6 {u : Nat} (h : u < 16777216) : (hex4U u).length ≤ 6 := by
  unfold hex4U
  have := hexD_len 6 u (by decide) h
  rw [List.length_append, List.length_replicate, hexU_len]
  omega
theorem byt_mk (l : List UInt8) (i : Nat) (h : i < l.length) : byt (mkB l) i = ((l[i]).toNat : Int) := by
  unfold byt mkB
  simp [h]
theorem good_hex (u : Nat) (h : u < 16777216) : goodX (mkB (hex4U u)) ∧ dxN (intsOf (mkB (hex4U u))) = u := by
  refine ⟨⟨by rw [mkB_size]; have := hex4U_pos u; omega, by rw [mkB_size]; have := hex4U_len6 h; omega, fun i hi => ?_⟩, by rw [ints_mkB]; exact hex4U_val u⟩
  rw [mkB_size] at hi
  rw [byt_mk _ _ hi]
  exact dU_dxP (hex4U_dU u _ (List.getElem_mem hi))
theorem prB_inj {z y : Int} (h : prB z = prB y) : z = y := by
  unfold prB at h
  have h := mkB_inj h
  have h : signD z ++ hex4U z.natAbs = signD y ++ hex4U y.natAbs := by simpa using h
  have hne : ∀ u : Nat, ∀ l, hex4U u ≠ 45 :: l := fun u l e => by
    have := hex4U_dU u 45 (by rw [e]; exact List.mem_cons_self ..)
    exact absurd this (by decide)
  unfold signD at h
  by_cases hz : z < 0
  · by_cases hy : y < 0
    · rw [if_pos hz, if_pos hy] at h
      have := hex4U_inj (List.append_cancel_left h)
      omega
    · rw [if_pos hz, if_neg hy] at h
      exact absurd h.symm (hne _ _)
  · by_cases hy : y < 0
    · rw [if_neg hz, if_pos hy] at h
      exact absurd h (hne _ _)
    · rw [if_neg hz, if_neg hy] at h
      have := hex4U_inj h
      omega
theorem prB_pos {r : Int} (h : 0 ≤ r) : prB r = mkB (85 :: 43 :: hex4U r.toNat) := by
  unfold prB signD
  rw [if_neg (by omega), show r.natAbs = r.toNat by omega]
  rfl
/-- Digits without zeros ahead. -/
def noZ (l : List UInt8) : List UInt8 := l.dropWhile (· == 48)
theorem noZ_len (l : List UInt8) : (noZ l).length ≤ l.length := by
  unfold noZ
  exact (List.dropWhile_sublist _).length_le
theorem noZ_cons0 (l : List UInt8) : noZ (48 :: l) = noZ l := by unfold noZ; rw [List.dropWhile_cons_of_pos (by decide)]
theorem noZ_cons {b : UInt8} (h : b ≠ 48) (l : List UInt8) : noZ (b :: l) = b :: l := by unfold noZ; rw [List.dropWhile_cons_of_neg (by simpa using h)]
theorem noZ_split : ∀ l : List UInt8, l = List.replicate (l.length - (noZ l).length) 48 ++ noZ l
  | [] => rfl
  | b :: l => by
    by_cases h : b = 48
    · subst h
      have := noZ_len l
      rw [noZ_cons0, List.length_cons, show l.length + 1 - (noZ l).length = l.length - (noZ l).length + 1 by omega, List.replicate_succ, List.cons_append, ← noZ_split l]
    · rw [noZ_cons h, Nat.sub_self]
      rfl
theorem noZ_snoc : ∀ (l : List UInt8) (b : UInt8), noZ (l ++ [b]) = if noZ l = [] then (if b = 48 then [] else [b]) else noZ l ++ [b]
  | [], b => by
    by_cases h : b = 48
    · subst h; rfl
    · rw [List.nil_append, noZ_cons h, if_pos (show noZ [] = [] from rfl), if_neg h]
  | x :: l, b => by
    by_cases h : x = 48
    · subst h
      rw [List.cons_append, noZ_cons0, noZ_cons0, noZ_snoc l b]
    · rw [List.cons_append, noZ_cons h, noZ_cons h, if_neg (by simp), List.cons_append]
theorem nv_nonneg : ∀ (n : Nat) (l : List UInt8), l.length = n → (∀ b ∈ l, dU (b.toNat : Int) = true) → 0 ≤ dxN (iv l)
  | 0, l, hl, _ => by rw [List.length_eq_zero_iff.1 hl]; decide
  | n + 1, l, hl, h => by
    rcases list_snocX l with e | ⟨k, b, e⟩
    · rw [e] at hl; simp at hl
    · subst e
      rw [iv_append]
      show 0 ≤ dxN (iv k ++ [(b.toNat : Int)])
      rw [dxN_snoc]
      have := nv_nonneg n k (by simpa using hl) (fun c hc => h c (List.mem_append_left _ hc))
      have := (dU_dgB b (h b (by simp))).1
      omega
/-- The digits of a number's digits. -/
theorem hxu0_val : ∀ (n : Nat) (l : List UInt8), l.length = n → (∀ b ∈ l, dU (b.toNat : Int) = true) → hxu0 (nvB l) = noZ l
  | 0, l, hl, _ => by rw [List.length_eq_zero_iff.1 hl]; rfl
  | n + 1, l, hl, h => by
    rcases list_snocX l with e | ⟨k, b, e⟩
    · rw [e] at hl; simp at hl
    · subst e
      have hk := fun c hc => h c (List.mem_append_left _ hc)
      have ih := hxu0_val n k (by simpa using hl) hk
      obtain ⟨d1, d2, d3⟩ := dU_dgB b (h b (by simp))
      have hnn := nv_nonneg n k (by simpa using hl) hk
      have hv : nvB (k ++ [b]) = nvB k * 16 + (dxV (b.toNat : Int)).toNat := by
        unfold nvB
        rw [iv_append]
        show (dxN (iv k ++ [(b.toNat : Int)])).toNat = _
        rw [dxN_snoc]
        omega
      rw [noZ_snoc, ← ih, hv]
      by_cases hz : nvB k = 0
      · rw [hz, Nat.zero_mul, Nat.zero_add]
        rw [if_pos (show hxu0 0 = [] from rfl)]
        by_cases hb : b = 48
        · subst hb
          rfl
        · rw [if_neg hb]
          have hne : (dxV (b.toNat : Int)).toNat ≠ 0 := by
            intro e
            rw [e] at d3
            exact hb (d3.symm.trans (by decide))
          rw [hxu0_step hne, Nat.div_eq_of_lt (by omega), Nat.mod_eq_of_lt (by omega), d3]
          rfl
      · have hne : nvB k * 16 + (dxV (b.toNat : Int)).toNat ≠ 0 := by omega
        have hkn : hxu0 (nvB k) ≠ [] := by
          rw [hxu0_step hz]
          simp
        rw [if_neg hkn, hxu0_step hne, show (nvB k * 16 + (dxV (b.toNat : Int)).toNat) / 16 = nvB k by omega, show (nvB k * 16 + (dxV (b.toNat : Int)).toNat) % 16 = (dxV (b.toNat : Int)).toNat by omega, d3]
theorem hex4U_back (l : List UInt8) (h : ∀ b ∈ l, dU (b.toNat : Int) = true) (h4 : 4 ≤ l.length) (h5 : 4 < l.length → l.head? ≠ some 48) : hex4U (nvB l) = l := by
  have e := hxu0_val l.length l rfl h
  have e2 := hexZU_start (nvB l)
  unfold hexZU at e2
  rw [e, List.append_nil] at e2
  rw [← e2]
  have hs := noZ_split l
  have hl := noZ_len l
  by_cases h44 : l.length = 4
  · conv => rhs; rw [hs]
    rw [h44]
    rfl
  · have hd := h5 (by omega)
    cases l with
    | nil => simp at h4
    | cons b l =>
      have hb : b ≠ 48 := fun e => hd (by rw [e]; rfl)
      rw [noZ_cons hb]
      have : 4 - ([] : List UInt8).length - (b :: l).length = 0 := by omega
      rw [this]
      rfl
/-- What a scalar's text is like. -/
theorem prB_facts {r : Int} (hr : scR r = true) : 6 ≤ (prB r).size ∧ (prB r).size ≤ 8 ∧ byt (prB r) 0 = 85 ∧ byt (prB r) 1 = 43 ∧ (6 < (prB r).size → byt (prB r) 2 ≠ 48) ∧ (∀ i, 2 ≤ i → i < (prB r).size → dU (byt (prB r) i) = true) ∧ (prB r).extract 2 (prB r).size = mkB (hex4U r.toNat) := by
  obtain ⟨h0, h1, _⟩ := scR_bd hr
  have hp := prB_pos h0
  have hl4 := hex4U_pos r.toNat
  have hl6 := hex4U_len6 (u := r.toNat) (by omega)
  have hsz : (prB r).size = (hex4U r.toNat).length + 2 := by rw [hp, mkB_size]; rfl
  have hb2 : ∀ i, i < (hex4U r.toNat).length → byt (prB r) (i + 2) = byt (mkB (hex4U r.toNat)) i := fun i hi => by
    rw [hp, byt_mk _ _ (by simpa using hi), byt_mk _ _ hi]
    rfl
  refine ⟨by omega, by omega, by rw [hp, byt_mk _ _ (by simp)]; rfl, by rw [hp, byt_mk _ _ (by simp)]; rfl, fun h6 => ?_, fun i h2 hi => ?_, ?_⟩
  · have e := hb2 0 (by omega)
    rw [byt_mk _ _ (by omega)] at e
    rw [e]
    intro e48
    have hlen : 4 < (hexD r.toNat).length := by
      unfold hex4U at hsz
      rw [List.length_append, List.length_replicate, hexU_len] at hsz
      omega
    have hu : hex4U r.toNat = hexU r.toNat := by
      unfold hex4U
      rw [show 4 - (hexD r.toNat).length = 0 by omega]
      rfl
    have hbk := hxu0_val _ _ rfl (hex4U_dU r.toNat)
    have hnv : nvB (hex4U r.toNat) = r.toNat := by unfold nvB; rw [hex4U_val]; omega
    have hr0 : r.toNat ≠ 0 := by
      intro e0
      rw [e0] at hlen
      exact absurd hlen (by rw [hexD, dif_pos (by decide)]; decide)
    rw [hnv] at hbk
    unfold hxu0 at hbk
    rw [if_neg hr0, ← hu] at hbk
    have hz : (hex4U r.toNat)[0]? = some 48 := by
      rw [List.getElem?_eq_getElem (by omega)]
      congr 1
      exact UInt8.toNat_inj.1 (by show _ = 48; omega)
    cases hh : hex4U r.toNat with
    | nil => rw [hh] at hl4; simp at hl4
    | cons b l =>
      rw [hh] at hz hbk
      have hb : b = 48 := by simpa using hz
      subst hb
      rw [noZ_cons0] at hbk
      have := noZ_len l
      rw [← hbk, List.length_cons] at this
      omega
  · have e := hb2 (i - 2) (by omega)
    rw [show i - 2 + 2 = i by omega] at e
    rw [e, byt_mk _ _ (by omega)]
    exact hex4U_dU _ _ (List.getElem_mem _)
  · refine ext_byt (by rw [ByteArray.size_extract, mkB_size]; omega) fun i hi => ?_
    rw [ByteArray.size_extract] at hi
    rw [byt_extract _ _ _ _ (by omega) (Nat.le_refl _), Nat.add_comm, hb2 i (by omega)]
/-- A text that is like that is a number's. -/
theorem prB_of {s : ByteArray} (h6 : 6 ≤ s.size) (h8 : s.size ≤ 8) (b0 : byt s 0 = 85) (b1 : byt s 1 = 43) (hz : 6 < s.size → byt s 2 ≠ 48) (hd : ∀ i, 2 ≤ i → i < s.size → dU (byt s i) = true) : s = prB (dxN (intsOf (s.extract 2 s.size))) ∧ 0 ≤ dxN (intsOf (s.extract 2 s.size)) := by
  obtain ⟨l, hl⟩ : ∃ l, s.extract 2 s.size = mkB l := ⟨(s.extract 2 s.size).data.toList, by unfold mkB; rfl⟩
  have hll : l.length = s.size - 2 := by
    have := congrArg ByteArray.size hl
    rw [ByteArray.size_extract, mkB_size] at this
    omega
  have hbl : ∀ i (h : i < l.length), ((l[i]).toNat : Int) = byt s (i + 2) := fun i h => by
    rw [← byt_mk l i h, ← hl, byt_extract _ _ _ _ (by omega) (Nat.le_refl _), Nat.add_comm]
  have hdl : ∀ b ∈ l, dU (b.toNat : Int) = true := fun b hb => by
    obtain ⟨i, hi, rfl⟩ := List.mem_iff_getElem.1 hb
    rw [hbl i hi]
    exact hd _ (by omega) (by omega)
  have hnn := nv_nonneg _ l rfl hdl
  rw [hl, ints_mkB]
  refine ⟨?_, hnn⟩
  rw [prB_pos hnn]
  have hback := hex4U_back l hdl (by omega) (fun h5 e => by
    cases l with
    | nil => simp at h5
    | cons b l =>
      have hb : b = 48 := by simpa using e
      have := hbl 0 (by simp)
      rw [List.getElem_cons_zero, hb] at this
      exact hz (by omega) this.symm)
  have hback : hex4U (dxN (iv l)).toNat = l := hback
  rw [hback]
  refine ext_byt (by rw [mkB_size, List.length_cons, List.length_cons]; omega) fun i hi => ?_
  rcases i with _ | _ | i
  · rw [b0, byt_mk _ _ (by simp)]; rfl
  · rw [b1, byt_mk _ _ (by simp)]; rfl
  · rw [byt_mk _ _ (by simp; omega)]
    exact (hbl i (by omega)).symm
/-- What a text is of a number. -/
def PaR (s : ByteArray) (v : Int) : Prop := (scR v = true ∧ s = prB v) ∨ (v = -1 ∧ ∀ r, scR r = true → s ≠ prB r)
end Go.Proofs.YtbkjanlkklmleaaDoor
