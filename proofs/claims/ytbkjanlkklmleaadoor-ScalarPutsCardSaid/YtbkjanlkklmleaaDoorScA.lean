/- Chapter 01: a text's scalar: walks. -/
import Derived.Test.YtbkjanlkklmleaaDoorScP
import Derived.Test.YtbkjanlkklmleaaDoorScQ
import Derived.Test.YtbkjanlkklmleaaDoorPiB
import Derived.Shelf.Strings.Prefix
namespace Go.Proofs.YtbkjanlkklmleaaDoor
open Go.RowKit
open Go.Shelf
open Hx
open Go.Lib (hid)
set_option linter.unusedVariables false
set_option maxRecDepth 100000

theorem wrapI32 {x : Int} (h : -2147483648 ≤ x) (h2 : x ≤ 2147483647) : IntKind.i32.wrap x = x := by
  simp only [IntKind.wrap, IntKind.signed, IntKind.bits, Bool.true_and]
  split
  · rename_i h3; have := of_decide_eq_true h3; omega
  · rename_i h3; have : ¬ _ := fun k => h3 (decide_eq_true k); omega
theorem pow16_le5 (i : Nat) (h : i ≤ 5) : (16 : Int) ^ i ≤ 1048576 := by
  rcases (by omega : i = 0 ∨ i = 1 ∨ i = 2 ∨ i = 3 ∨ i = 4 ∨ i = 5) with rfl | rfl | rfl | rfl | rfl | rfl <;> decide
def upB : ByteArray := ⟨#[85, 43]⟩
theorem up_two {s : ByteArray} (h : 2 ≤ s.size) : s.extract 0 2 = upB ↔ byt s 0 = 85 ∧ byt s 1 = 43 := by
  constructor
  · intro e
    have e0 := byt_extract s 0 2 0 (by omega) h
    have e1 := byt_extract s 0 2 1 (by omega) h
    rw [e] at e0 e1
    exact ⟨e0.symm.trans (by decide), e1.symm.trans (by decide)⟩
  · rintro ⟨h0, h1⟩
    refine ext_byt (by rw [ByteArray.size_extract]; show min 2 s.size - 0 = 2; omega) fun i hi => ?_
    rw [ByteArray.size_extract] at hi
    rw [byt_extract s 0 2 i (by omega) h, Nat.zero_add]
    rcases (by omega : i = 0 ∨ i = 1) with rfl | rfl
    · rw [h0]; decide
    · rw [h1]; decide
def RpPost (s : ByteArray) (w : World) (e : Ending) (w' : World) : Prop := (∃ v, e = .returned (.int .i32 v) ∧ PaR s v) ∧ w' = w
theorem rp_no {s : ByteArray} {w : World} (h : ∀ r, scR r = true → s ≠ prB r) : RpPost s w (.returned (.int .i32 (-1))) w := ⟨⟨-1, rfl, .inr ⟨rfl, h⟩⟩, rfl⟩
set_option maxHeartbeats 4000000 in
theorem refparse_any (s : ByteArray) (hs : s.size ≤ 1000) (w : World) : Calls Tryd.prog 7 #[.string s] w (RpPost s w) := by
  have hf := fun r (hr : scR r = true) => prB_facts hr
  by_cases h6 : s.size < 6
  · have HN := hid (rp_no (s := s) (w := w) fun r hr e => by have := (hf r hr).1; rw [← e] at this; omega)
    have h6' : (s.size : Int) < 6 := by omega
    clear hf h6
    go_enter Tryd.func7, Tryd.ntmps7
    go_wp2_with fail
    go_ret
    exact HN.out
  by_cases h8 : 8 < s.size
  · have HN := hid (rp_no (s := s) (w := w) fun r hr e => by have := (hf r hr).2.1; rw [← e] at this; omega)
    have h6' : ¬ (s.size : Int) < 6 := by omega
    have h8' : 8 < (s.size : Int) := by omega
    clear hf h6 h8
    go_enter Tryd.func7, Tryd.ntmps7
    go_wp2_with fail
    go_ret
    exact HN.out
  have h6' : ¬ (s.size : Int) < 6 := by omega
  have h8' : ¬ 8 < (s.size : Int) := by omega
  have h2 := up_two (s := s) (by omega)
  have hsl : ∀ W, (Instr.slice 9 (.string s) none (some (.int .i64 2)) none).run Tryd.prog W = .ok (.string (s.extract 0 2)) W := fun W => by
    rw [run_slice_string_to_if W 9 s .i64 _ Tryd.underlying9, if_pos ⟨by omega, by omega⟩]
    rfl
  by_cases hup : s.extract 0 2 = upB
  · obtain ⟨b0, b1⟩ := h2.1 hup
    rw [hup] at hsl
    have hupe : (upB.toList == (⟨#[85, 43]⟩ : ByteArray).toList) = true := by simp [upB]
    have h2s : 2 < s.size := by omega
    have hg2 : ((s[2]'h2s).toNat : Int) = byt s 2 := by rw [getB]; have := (byt_nonneg s 2).1; omega
    unfold upB at hsl
    by_cases hz : 6 < s.size ∧ byt s 2 = 48
    · have HN := hid (rp_no (s := s) (w := w) fun r hr e => by have := (hf r hr).2.2.2.2.1; rw [← e] at this; exact this hz.1 hz.2)
      obtain ⟨z1, z2⟩ := hz
      have z1' : 6 < (s.size : Int) := by omega
      rw [z2] at hg2
      clear hf h6 h8 h2 hup z1 b0 b1
      go_enter Tryd.func7, Tryd.ntmps7
      go_wp2_with fail
      go_ret
      exact HN.out
    · obtain ⟨t, ht⟩ : ∃ t, t = s.extract 2 s.size := ⟨_, rfl⟩
      have hts : t.size = s.size - 2 := by rw [ht, ByteArray.size_extract]; omega
      have htb : ∀ i, i + 2 < s.size → byt t i = byt s (i + 2) := fun i hi => by rw [ht, byt_extract _ _ _ _ (by omega) (Nat.le_refl _), Nat.add_comm]
      have HTS := hid hts
      have HTB := hid htb
      have HB0 := hid b0
      have HB1 := hid b1
      have HT := hid ht
      have HF := hid hf
      have HZ := hid hz
      have H6 := hid h6
      have H8 := hid h8
      have hgi : ∀ (i : Nat) (h : i < s.size), ((s[i]'h).toNat : Int) = byt s i := fun i h => by rw [getB]; have := (byt_nonneg s i).1; omega
      have HGI := hid hgi
      have hs8 : s.size ≤ 8 := by omega
      have hcase : ¬ (6 < (s.size : Int)) ∨ (6 < (s.size : Int) ∧ (byt s 2 == 48) = false) := by
        by_cases h : 6 < s.size
        · exact .inr ⟨by omega, by rw [beq_eq_false_iff_ne]; exact fun e => hz ⟨h, e⟩⟩
        · exact .inl (by omega)
      generalize hc2 : byt s 2 = c2 at hg2 hcase
      clear hf h6 h8 h2 hup b0 b1 ht hts htb hz hgi hc2
      go_enter Tryd.func7, Tryd.ntmps7
      rcases hcase with q1 | ⟨q1, q2⟩
      all_goals
        go_wp2_with fail
        try clear q2
        clear q1 hg2 hsl hupe h6' h8'
        go_loopg [3, 4] s.size (fun kx s3 s4 wr => ∃ (i : Nat) (v : Int), s3 = .int .i32 v ∧ s4 = .int .i64 i ∧ i ≤ s.size ∧ s.size - i ≤ kx ∧ wr = w ∧ Hid (2 ≤ i) ∧ Hid (v = dxN ((intsOf t).take (i - 2))) ∧ Hid (∀ j, 2 ≤ j → j < i → dU (byt s j) = true))
        case atStart => exact ⟨2, 0, rfl, rfl, (by have := H6.out; omega), by omega, rfl, Nat.le_refl _, rfl, fun j h1 h2 => by omega⟩
        case round =>
          obtain ⟨i, v, rfl, rfl, hi, hg, hw, HI2, HV, HD⟩ := hrel
          obtain rfl : w = wr := hw.symm
          have hvr := dxN_rng (i - 2) t (by have := HTS.out; omega) (fun j hj => by
            rw [HTB.out j (by omega)]
            exact dU_dxP (HD.out (j + 2) (by omega) (by omega)))
          have hp7 := pow16_le7 (i - 2) (by omega)
          rw [← HV.out] at hvr
          by_cases hlt : i < s.size
          · have hlt' : (i : Int) < (s.size : Int) := by omega
            have hgc := HGI.out i hlt
            have hcb := byt_nonneg s i
            have HNX := hid (show dxN ((intsOf t).take (i + 1 - 2)) = v * 16 + dxV (byt s i) by
              have h2 := HI2.out
              rw [show i + 1 - 2 = i - 2 + 1 by omega, intsX_take (by have := HTS.out; omega), dxN_snoc, ← HV.out, HTB.out (i - 2) (by omega), show i - 2 + 2 = i by omega])
            have HDN := hid (fun (h : dU (byt s i) = true) (j : Nat) (h1 : 2 ≤ j) (h2 : j < i + 1) => show dU (byt s j) = true from by
              rcases Nat.lt_or_ge j i with q | q
              · exact HD.out j h1 q
              · obtain rfl : j = i := by omega
                exact h)
            have HBAD := hid (fun (h : dU (byt s i) = false) => rp_no (s := s) (w := w) fun r hr e => by
              have := (HF.out r hr).2.2.2.2.2.1 i HI2.out (by rw [← e]; exact hlt)
              rw [← e, h] at this
              cases this)
            have HI3 := hid (show 2 ≤ i + 1 by have := HI2.out; omega)
            have hp5 := pow16_le5 (i - 2) (by omega)
            have hv28 : v < 1048576 := by omega
            clear hp5
            have hv0 := hvr.1
            generalize byt s i = c at *
            obtain ⟨c0, c255⟩ := hcb
            clear hvr hp7
            by_cases h48 : 48 ≤ c ∧ c ≤ 57
            · obtain ⟨a1, a2⟩ := h48
              have HU := hid (HDN.out (by simp [dU]; omega))
              have HN2 := hid (show 16 * v + (c - 48) = dxN ((intsOf t).take (i + 1 - 2)) by rw [HNX.out]; unfold dxV; rw [if_pos a2]; omega)
              have a7 : IntKind.u8.wrap (c - 48) = c - 48 := wrapX (by omega) (by omega)
              have e1 : IntKind.i32.wrap (16 * v) = 16 * v := wrapI32 (by omega) (by omega)
              have e2 : IntKind.i32.wrap (16 * v + (c - 48)) = 16 * v + (c - 48) := wrapI32 (by omega) (by omega)
              have e3 : IntKind.i32.wrap (c - 48) = c - 48 := wrapI32 (by omega) (by omega)
              go_wp2_with fail
              go_roundg (s.size - (i + 1))
              case measure => omega
              case rel => exact ⟨i + 1, _, rfl, by go_num, by omega, Nat.le_refl _, rfl, HI3, HN2, HU⟩
            · by_cases h65 : 65 ≤ c ∧ c ≤ 70
              · obtain ⟨a1, a2⟩ := h65
                have HU := hid (HDN.out (by simp [dU]; omega))
                have HN2 := hid (show 16 * v + (c - 65) + 10 = dxN ((intsOf t).take (i + 1 - 2)) by rw [HNX.out]; unfold dxV; rw [if_neg (by omega), if_pos (by omega)]; omega)
                have a7 : IntKind.u8.wrap (c - 65) = c - 65 := wrapX (by omega) (by omega)
                have e1 : IntKind.i32.wrap (16 * v) = 16 * v := wrapI32 (by omega) (by omega)
                have e2 : IntKind.i32.wrap (16 * v + (c - 65)) = 16 * v + (c - 65) := wrapI32 (by omega) (by omega)
                have e3 : IntKind.i32.wrap (16 * v + (c - 65) + 10) = 16 * v + (c - 65) + 10 := wrapI32 (by omega) (by omega)
                have e4 : IntKind.i32.wrap (c - 65) = c - 65 := wrapI32 (by omega) (by omega)
                have n57 : ¬ c ≤ 57 := by omega
                have n48 : 48 ≤ c := by omega
                clear h48
                go_wp2_with fail
                go_roundg (s.size - (i + 1))
                case measure => omega
                case rel => exact ⟨i + 1, _, rfl, by go_num, by omega, Nat.le_refl _, rfl, HI3, HN2, HU⟩
              · have HB := hid (HBAD.out (by simp [dU]; omega))
                rcases (by omega : c < 48 ∨ (57 < c ∧ c < 65) ∨ 70 < c) with d | ⟨d, d2⟩ | d
                all_goals
                  clear h48 h65
                  go_wp2_with fail
                  go_ret
                  exact HB.out
          · have hlt' : ¬ (i : Int) < (s.size : Int) := by omega
            have hta : (intsOf t).take (i - 2) = intsOf t := List.take_of_length_le (by rw [intsOf_len, HTS.out]; omega)
            rw [hta] at HV
            have hall := prB_of (s := s) (by have := H6.out; omega) hs8 HB0.out HB1.out (fun h e => HZ.out ⟨h, e⟩) (fun j h1 h2 => HD.out j h1 (by omega))
            rw [← HT.out, ← HV.out] at hall
            have HALL := hid hall
            clear hall hta hvr hp7 hlt hg
            cases hr : rightR v
            · have HN := hid (rp_no (s := s) (w := w) fun r hr2 e => by
                have e2 := prB_inj (e.symm.trans HALL.out.1)
                have : scR v = true := by rw [← e2]; exact hr2
                have hr3 : scR v = false := hr
                rw [hr3] at this
                cases this)
              have HRR := hid (refright_any v w)
              rw [hr] at HRR
              clear hr
              go_wp2_with fail
              refine HRR.out.mono ?_
              rintro e w2 ⟨rfl, hw2⟩
              obtain rfl : w = w2 := hw2.symm
              go_wp2_with fail
              go_ret
              exact HN.out
            · have HRR := hid (refright_any v w)
              rw [hr] at HRR
              have HSC := hid (show scR v = true from hr)
              clear hr
              go_wp2_with fail
              refine HRR.out.mono ?_
              rintro e w2 ⟨rfl, hw2⟩
              obtain rfl : w = w2 := hw2.symm
              go_wp2_with fail
              go_ret
              exact ⟨⟨v, rfl, .inl ⟨HSC.out, HALL.out.1⟩⟩, rfl⟩
  · have HN := hid (rp_no (s := s) (w := w) fun r hr e => by
      obtain ⟨_, _, k0, k1, _⟩ := hf r hr
      rw [← e] at k0 k1
      exact hup (h2.2 ⟨k0, k1⟩))
    clear hf h6 h8 h2
    generalize s.extract 0 2 = u at *
    have hu1 : (u.toList == (⟨#[85, 43]⟩ : ByteArray).toList) = false := str_ne hup
    have hu2 : ¬ u.toList = (⟨#[85, 43]⟩ : ByteArray).toList := fun e => hup (str_toList_inj.1 e)
    have hu3 : (u.toList == [85, 43]) = false := by
      have : (⟨#[85, 43]⟩ : ByteArray).toList = [85, 43] := by rw [Lib.toList_data]
      rw [this] at hu1
      exact hu1
    have hu4 : ¬ u.toList = [85, 43] := by simpa using hu3
    clear hup
    go_enter Tryd.func7, Tryd.ntmps7
    go_wp2_with fail
    go_ret
    exact HN.out

/-- What scalar.Parse answers. -/
def ScPost (s : ByteArray) (w : World) (e : Ending) (w' : World) : Prop :=
  (∃ v er, e = .returned (.tuple #[.int .i32 v, .int .i64 er]) ∧ ((scR v = true ∧ s = prB v ∧ er = 0) ∨ (v = 0 ∧ er = 4 ∧ ∀ r, scR r = true → s ≠ prB r))) ∧ Below w.heap.size w w'
theorem scright_any (r : Int) (w : World) : Calls Tryd.prog 17 #[.int .i32 r] w fun e w' => e = .returned (.bool (scR r)) ∧ w = w' := right_any r w
theorem trim_pr {r : Int} (hr : scR r = true) : (⟨(Lib.trimPrefix (prB r).data.toList [85, 43]).toArray⟩ : ByteArray) = mkB (hex4U r.toNat) := by
  rw [prB_pos (scR_bd hr).1]
  unfold Lib.trimPrefix Lib.hasPrefix mkB
  simp
set_option maxHeartbeats 4000000 in
theorem scparse_any (s : ByteArray) (hs : s.size ≤ 1000) (w : World) (hv : ErrV w) (hdb : Db w) : Calls Tryd.prog 6 #[.string s] w (ScPost s w) := by
  have HTR := hid (fun W => Any.strings_TrimPrefix (P := Tryd.prog) Tryd.laysPi101 s ⟨#[85, 43]⟩ W)
  have htl : (⟨(Lib.trimPrefix s.data.toList (⟨#[85, 43]⟩ : ByteArray).data.toList).toArray⟩ : ByteArray).size ≤ 1000 := by
    have := Lib.trimPrefix_le s.data.toList (⟨#[85, 43]⟩ : ByteArray).data.toList
    have h2 : s.data.toList.length = s.size := Array.length_toList
    show (Lib.trimPrefix s.data.toList (⟨#[85, 43]⟩ : ByteArray).data.toList).toArray.size ≤ 1000
    rw [List.size_toArray]
    omega
  have htp : ∀ r, scR r = true → s = prB r → (⟨(Lib.trimPrefix s.data.toList (⟨#[85, 43]⟩ : ByteArray).data.toList).toArray⟩ : ByteArray) = mkB (hex4U r.toNat) := fun r hr e => by rw [e]; exact trim_pr hr
  generalize (⟨(Lib.trimPrefix s.data.toList (⟨#[85, 43]⟩ : ByteArray).data.toList).toArray⟩ : ByteArray) = t at *
  have HTP := hid htp
  have HV := hid hv
  have HDB := hid hdb
  have HPI := hid (sparseIntX_any t (by omega) w hv)
  clear htp hv hdb
  go_enter Tryd.func6, Tryd.ntmps6
  go_wp2_with fail
  refine (HTR.out _).mono ?_
  rintro e w1 ⟨rfl, hw1⟩
  obtain rfl : w = w1 := hw1.symm
  go_wp2_with fail
  refine HPI.out.mono ?_
  rintro e w2 ⟨n, er, rfl, her, n0, n1, hgd, hb2⟩
  have HGD := hid hgd
  have HB2 := hid hb2
  have HDB2 := hid (HDB.out.below hb2 (Nat.le_refl _))
  have e32 : IntKind.i32.wrap n = n := wrapI32 (by omega) (by omega)
  clear hgd hb2
  rcases her with rfl | ⟨te, pe, rfl⟩
  · by_cases hr : scR n = true
    · have HSR := hid (scright_any n w2)
      rw [hr] at HSR
      have HPR := hid (scPrint_any n n0 n1 w2 HDB2.out)
      have HR := hid hr
      clear hr
      go_wp2_with fail
      refine HSR.out.mono ?_
      rintro e w3 ⟨rfl, rfl⟩
      go_wp2_with fail
      refine HPR.out.mono ?_
      rintro e w3 ⟨rfl, hb3⟩
      have HB3 := hid (HB2.out.trans (hb3.mono HB2.out.size))
      clear hb3
      by_cases hps : prB n = s
      · have HPS := hid hps.symm
        rw [hps]
        have hbb : (s.toList == s.toList) = true := by simp
        clear hps
        go_wp2_with fail
        go_ret2
        exact ⟨⟨n, 0, rfl, .inl ⟨HR.out, HPS.out, rfl⟩⟩, HB3.out⟩
      · have HNO := hid (show ∀ r, scR r = true → s ≠ prB r from fun r hr e => by
          have h1 := HTP.out r hr e
          obtain ⟨g1, g2⟩ := good_hex r.toNat (by have := scR_bd hr; omega)
          have h3 := (HGD.out (by rw [h1]; exact g1)).2
          rw [h1, g2] at h3
          have h0 := (scR_bd hr).1
          exact hps (by rw [h3, show ((r.toNat : Nat) : Int) = r by omega]; exact e.symm))
        have hbb : ((prB n).toList == s.toList) = false := str_ne hps
        have hbb2 : ¬ (prB n).toList = s.toList := fun e => hps (str_toList_inj.1 e)
        generalize prB n = q at *
        clear hps
        go_wp2_with fail
        go_ret2
        exact ⟨⟨0, 4, rfl, .inr ⟨rfl, rfl, HNO.out⟩⟩, HB3.out⟩
    · have hrf : scR n = false := by simpa using hr
      have HNO := hid (show ∀ r, scR r = true → s ≠ prB r from fun r hr2 e => by
        have h1 := HTP.out r hr2 e
        obtain ⟨g1, g2⟩ := good_hex r.toNat (by have := scR_bd hr2; omega)
        have h3 := (HGD.out (by rw [h1]; exact g1)).2
        rw [h1, g2] at h3
        have h0 := (scR_bd hr2).1
        rw [h3, show ((r.toNat : Nat) : Int) = r by omega, hr2] at hrf
        cases hrf)
      have HSR := hid (scright_any n w2)
      rw [hrf] at HSR
      clear hr hrf
      go_wp2_with fail
      refine HSR.out.mono ?_
      rintro e w3 ⟨rfl, rfl⟩
      go_wp2_with fail
      go_ret2
      exact ⟨⟨0, 4, rfl, .inr ⟨rfl, rfl, HNO.out⟩⟩, HB2.out⟩
  · have HNO := hid (show ∀ r, scR r = true → s ≠ prB r from fun r hr e => by
      have h1 := HTP.out r hr e
      obtain ⟨g1, g2⟩ := good_hex r.toNat (by have := scR_bd hr; omega)
      have h3 := (HGD.out (by rw [h1]; exact g1)).1
      cases h3)
    go_wp2_with fail
    go_ret2
    exact ⟨⟨0, 4, rfl, .inr ⟨rfl, rfl, HNO.out⟩⟩, HB2.out⟩
end Go.Proofs.YtbkjanlkklmleaaDoor
