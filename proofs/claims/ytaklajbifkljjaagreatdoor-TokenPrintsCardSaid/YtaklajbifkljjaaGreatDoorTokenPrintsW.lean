/- The walk of the law TokenPrints. -/
import Derived.Test.YtaklajbifkljjaaGreatDoorTkLaid
import Derived.BigQuiet
import Derived.Lib.AppendIntMem
namespace Go.Proofs.YtaklajbifkljjaaGreatDoor.tokenPrints
open Go.RowKit Go.Shelf
open Go.Lib (hid)
set_option linter.unusedVariables false
set_option maxRecDepth 100000

theorem Tab19.below {w w' : World} {B : Nat} (h : Tab19 w) (hb : Below B w w') (hB : w.heap.size ≤ B) : Tab19 w' := by
  unfold Tab19 Lib.TabIs World.var? at *
  cases hg : Tryz.prog.globalNamed "internal/strconv.uint64pow10" with
  | none => simp [hg] at h
  | some g =>
    simp only [hg, Option.bind_some] at h ⊢
    have hlt : g < w.heap.size := by
      rcases Nat.lt_or_ge g w.heap.size with h' | h'
      · exact h'
      · rw [Array.getElem?_eq_none h'] at h; simp at h
    rw [hb.block g (by omega)]
    exact h
theorem rng64 {z : Int} (h : (Lit.int .i64 z).wf = true) : -9223372036854775808 ≤ z ∧ z ≤ 9223372036854775807 := by
  simp only [Lit.wf, IntKind.min, IntKind.max, IntKind.signed, IntKind.bits, Bool.and_eq_true] at h
  have h1 := of_decide_eq_true h.1
  have h2 := of_decide_eq_true h.2
  simp at h1 h2
  omega
theorem rng32 {z : Int} (h : (Lit.int .i32 z).wf = true) : -2147483648 ≤ z ∧ z ≤ 2147483647 := by
  simp only [Lit.wf, IntKind.min, IntKind.max, IntKind.signed, IntKind.bits, Bool.and_eq_true] at h
  have h1 := of_decide_eq_true h.1
  have h2 := of_decide_eq_true h.2
  simp at h1 h2
  omega
theorem itoa_any (n : Int) (h0 : -9223372036854775808 ≤ n) (h1 : n ≤ 9223372036854775807) (w : World) (ht : Tab19 w) : Calls Tryz.prog 42 #[.int .i64 n] w fun e w' => e = .returned (.string (itoaB n)) ∧ Below w.heap.size w w' := by
  refine (Any.strconv_Itoa (P := Tryz.prog) Tryz.laysHx171 n h0 h1 w ht).mono ?_
  rintro e w' ⟨rfl, k, os, hw⟩
  refine ⟨rfl, ?_⟩
  rw [hw]
  exact Lib.below_grow _ _ (Nat.le_refl _) _ _
def wantB (K A B : ByteArray) : ByteArray := K ++ ⟨#[32]⟩ ++ A ++ ⟨#[32]⟩ ++ B
theorem preP_want (k f t : Int) : preP k f t = wantB (kindB k) (itoaB f) (itoaB t) := by
  unfold preP wantB
  simp only [append_assoc3]
  rfl
theorem want_ref (W : ByteArray) (r : Int) : (W ++ spB) ++ Hx.prB r = (W ++ ⟨#[32, 85, 43]⟩) ++ Hx.mkB (Hx.signD r ++ Hx.hex4U r.natAbs) := by
  have h1 : Hx.prB r = Hx.mkB [85, 43] ++ Hx.mkB (Hx.signD r ++ Hx.hex4U r.natAbs) := by
    rw [Hx.mkB_append]
    unfold Hx.prB
    simp
  have h2 : (⟨#[32, 85, 43]⟩ : ByteArray) = spB ++ Hx.mkB [85, 43] := by decide
  rw [h1, h2]
  simp only [append_assoc3]
theorem want_tag (W nm : ByteArray) : W ++ (spB ++ nm) = (W ++ ⟨#[32]⟩) ++ nm := by
  simp only [append_assoc3]
  rfl
theorem kidxS (k : Nat) (hk : k ≤ 7) (W : World) : (W.alloc (.cells #[.string ⟨#[116, 101, 120, 116]⟩, .string ⟨#[114, 101, 102]⟩, .string ⟨#[115, 116, 97, 114, 116]⟩, .string ⟨#[101, 110, 100]⟩, .string ⟨#[99, 111, 109, 109, 101, 110, 116]⟩, .string ⟨#[100, 101, 99, 108]⟩, .string ⟨#[101, 115, 99, 97, 112, 101]⟩, .string ⟨#[114, 97, 119]⟩] 9)).cell? ⟨W.heap.size, k, none⟩ = some (.string (kindB k)) := by
  rw [(Blk.new W 9 _).cell k]
  rcases (by omega : k = 0 ∨ k = 1 ∨ k = 2 ∨ k = 3 ∨ k = 4 ∨ k = 5 ∨ k = 6 ∨ k = 7) with rfl | rfl | rfl | rfl | rfl | rfl | rfl | rfl <;> rfl
set_option maxHeartbeats 16000000 in
theorem walk (t0 : Int) (t1 : Int) (t2 : Int) (t3 : ByteArray) (t4 : Int) (t5 : Bool) (t6 : Bool) (w : World) (w0_0 : (Lit.int .i64 t0).wf = true) (w0_1 : (Lit.int .i64 t1).wf = true) (w0_2 : (Lit.int .i64 t2).wf = true) (w0_3 : t3.size ≤ maxLen) (w0_4 : (Lit.int .i32 t4).wf = true) (hsh : w.ShapedOpen Tryz.prog) (hdt : Hx.Db w ∧ Tab19 w) :
    Calls Tryz.prog 9 #[.agg #[.int .i64 t0, .int .i64 t1, .int .i64 t2, .string t3, .int .i32 t4, .bool t5, .bool t6]] w fun e w' => e = .returned (.bool true) ∧ Below w.heap.size w w' := by
  obtain ⟨hdb, htab⟩ := hdt
  have hmx := mx_of hsh
  have r1 := rng64 w0_1
  have r2 := rng64 w0_2
  have r4 := rng32 w0_4
  have HAW := hid (fun W (h : Below w.heap.size w W) => tkawake_any W (hdb.below h (Nat.le_refl _)) (hmx.below h (Nat.le_refl _)))
  have hbz := (Below.refl w.heap.size w).alloc (Nat.le_refl _) (.cells #[.int .i64 t0, .int .i64 t1, .int .i64 t2, .string t3, .int .i32 t4, .bool t5, .bool t6] 53)
  have hbk := Blk.new w 53 #[.int .i64 t0, .int .i64 t1, .int .i64 t2, .string t3, .int .i32 t4, .bool t5, .bool t6]
  have HBL := hid hbz
  have HLT := hid hbk.lt
  have hcx := fun W (h : Below (w.heap.size + 1) (w.alloc (.cells #[.int .i64 t0, .int .i64 t1, .int .i64 t2, .string t3, .int .i32 t4, .bool t5, .bool t6] 53)) W) (j : Nat) => (h.cell (p := ⟨w.heap.size, j, none⟩) (by simp)).trans (hbk.cell j)
  have HCX := hid hcx
  have x0 := hbk.cell 0
  have x1 := hbk.cell 1
  have x2 := hbk.cell 2
  have x3 := hbk.cell 3
  have x4 := hbk.cell 4
  have x5 := hbk.cell 5
  simp only [List.getElem?_toArray, List.getElem?_cons_zero, List.getElem?_cons_succ] at x0 x1 x2 x3 x4 x5
  have hA := itoaB_size r1.1 r1.2
  have hB := itoaB_size r2.1 r2.2
  have HNUM1 := hid (fun W => num_any t1 r1.1 r1.2 W)
  have HNUM2 := hid (fun W => num_any t2 r2.1 r2.2 W)
  have HHEX := hid (fun W => Hx.refHex_any t4 r4.1 r4.2 W)
  have HKD := hid (fun W => kind_any t0 W)
  have hw1s : (w.alloc (.cells #[.int .i64 t0, .int .i64 t1, .int .i64 t2, .string t3, .int .i32 t4, .bool t5, .bool t6] 53)).heap.size = w.heap.size + 1 := by simp
  clear hcx
  by_cases hbig : 60 < t3.size
  · have hbig' : (60 : Int) < (t3.size : Int) := by omega
    clear hbk hbz hdb htab hmx
    go_enter Tryz.func9, Tryz.ntmps9
    go_wp2_with fail
    generalize w.alloc (.cells #[.int .i64 t0, .int .i64 t1, .int .i64 t2, .string t3, .int .i32 t4, .bool t5, .bool t6] 53) = w1 at *
    refine (HAW.out _ HBL.out).mono ?_
    rintro e w2 ⟨rfl, hb2⟩
    have HB2 := hid (HBL.out.trans (hb2.mono HBL.out.size))
    clear hb2
    go_wp2_with fail
    go_ret
    exact ⟨rfl, HB2.out⟩
  have hbig' : ¬ (60 : Int) < (t3.size : Int) := by omega
  have HPRI := hid (fun W (h : Below w.heap.size w W) => print_any t0 t1 t2 t3 t4 t5 W (by omega) hA hB r4.1 r4.2 (hdb.below h (Nat.le_refl _)) (fun W' h' => ⟨itoa_any t1 r1.1 r1.2 W' (Tab19.below (Tab19.below htab h (Nat.le_refl _)) h' (Nat.le_refl _)), itoa_any t2 r2.1 r2.2 W' (Tab19.below (Tab19.below htab h (Nat.le_refl _)) h' (Nat.le_refl _))⟩))
  have e4 : IntKind.i64.wrap t4 = t4 := IntWalk.i64_in _ (by omega)
  clear hbk hbz hdb htab hmx hsh
  by_cases hk : t0 < 0 ∨ 7 < t0
  · rw [show printB t0 t1 t2 t3 t4 t5 = ⟨#[]⟩ from if_pos hk] at HPRI
    rw [kindB_none hk] at HKD
    unfold noB at HKD
    rcases hk with hk | hk
    · go_enter Tryz.func9, Tryz.ntmps9
      go_wp2_with fail
      generalize w.alloc (.cells #[.int .i64 t0, .int .i64 t1, .int .i64 t2, .string t3, .int .i32 t4, .bool t5, .bool t6] 53) = w1 at *
      refine (HAW.out _ HBL.out).mono ?_
      rintro e w2 ⟨rfl, hb2⟩
      have hb2s := hb2.size
      have HB2 := hid (HBL.out.trans (hb2.mono HBL.out.size))
      have hcz := HCX.out w2 (by rw [← hw1s]; exact hb2)
      have z0 := hcz 0
      have z1 := hcz 1
      have z2 := hcz 2
      have z3 := hcz 3
      have z4 := hcz 4
      have z5 := hcz 5
      simp only [List.getElem?_toArray, List.getElem?_cons_zero, List.getElem?_cons_succ] at z0 z1 z2 z3 z4 z5
      have HC2 := hid hb2
      clear hb2 x0 x1 x2 x3 x4 x5 hcz
      go_wp2_with fail
      refine (HPRI.out _ HB2.out).mono ?_
      rintro e w3 ⟨rfl, hb3⟩
      have HB3 := hid (HB2.out.trans (hb3.mono HB2.out.size))
      have hcz := HCX.out w3 (by rw [← hw1s]; exact HC2.out.trans (hb3.mono HC2.out.size))
      have x0 := hcz 0
      have x1 := hcz 1
      have x2 := hcz 2
      have x3 := hcz 3
      have x4 := hcz 4
      have x5 := hcz 5
      simp only [List.getElem?_toArray, List.getElem?_cons_zero, List.getElem?_cons_succ] at x0 x1 x2 x3 x4 x5
      have hs3 := hb3.size
      have hs3b : w.heap.size < w3.heap.size := by have := HLT.out; omega
      clear hb3 hcz z0 z1 z2 z3 z4 z5
      go_wp2_with (go_at_call 26; refine (HKD.out _).mono ?_; rintro e w4 ⟨rfl, hw4⟩; rw [hw4]; clear hw4)
      go_ret
      exact ⟨rfl, HB3.out⟩
    · go_enter Tryz.func9, Tryz.ntmps9
      go_wp2_with fail
      generalize w.alloc (.cells #[.int .i64 t0, .int .i64 t1, .int .i64 t2, .string t3, .int .i32 t4, .bool t5, .bool t6] 53) = w1 at *
      refine (HAW.out _ HBL.out).mono ?_
      rintro e w2 ⟨rfl, hb2⟩
      have hb2s := hb2.size
      have HB2 := hid (HBL.out.trans (hb2.mono HBL.out.size))
      have hcz := HCX.out w2 (by rw [← hw1s]; exact hb2)
      have z0 := hcz 0
      have z1 := hcz 1
      have z2 := hcz 2
      have z3 := hcz 3
      have z4 := hcz 4
      have z5 := hcz 5
      simp only [List.getElem?_toArray, List.getElem?_cons_zero, List.getElem?_cons_succ] at z0 z1 z2 z3 z4 z5
      have HC2 := hid hb2
      clear hb2 x0 x1 x2 x3 x4 x5 hcz
      go_wp2_with fail
      refine (HPRI.out _ HB2.out).mono ?_
      rintro e w3 ⟨rfl, hb3⟩
      have HB3 := hid (HB2.out.trans (hb3.mono HB2.out.size))
      have hcz := HCX.out w3 (by rw [← hw1s]; exact HC2.out.trans (hb3.mono HC2.out.size))
      have x0 := hcz 0
      have x1 := hcz 1
      have x2 := hcz 2
      have x3 := hcz 3
      have x4 := hcz 4
      have x5 := hcz 5
      simp only [List.getElem?_toArray, List.getElem?_cons_zero, List.getElem?_cons_succ] at x0 x1 x2 x3 x4 x5
      have hs3 := hb3.size
      have hs3b : w.heap.size < w3.heap.size := by have := HLT.out; omega
      clear hb3 hcz z0 z1 z2 z3 z4 z5
      go_wp2_with (go_at_call 26; refine (HKD.out _).mono ?_; rintro e w4 ⟨rfl, hw4⟩; rw [hw4]; clear hw4)
      go_ret
      exact ⟨rfl, HB3.out⟩
  · obtain ⟨k, hkk⟩ : ∃ k : Nat, t0 = k := ⟨t0.toNat, by omega⟩
    have hk7 : k ≤ 7 := by omega
    have hk8 : (k : Int) < 8 := by omega
    subst hkk
    have hpp := preP_want k t1 t2
    have hK := kindB_size k
    have hki := kidxS k hk7
    have hHX : (Hx.mkB (Hx.signD t4 ++ Hx.hex4U t4.natAbs)).size ≤ 9 := by
      have := Hx.hex4U_len t4.natAbs (by omega)
      have h2 : (Hx.signD t4).length ≤ 1 := by unfold Hx.signD; split <;> decide
      rw [Hx.mkB_size, List.length_append]
      omega
    have hPRC := (show printB k t1 t2 t3 t4 t5 = (if (k : Int) = 1 then (preP k t1 t2 ++ spB) ++ Hx.prB t4
  else if (k : Int) = 2 ∨ (k : Int) = 3 then (if t5 = true then (preP k t1 t2 ++ (spB ++ t3)) ++ slB else preP k t1 t2 ++ (spB ++ t3))
  else preP k t1 t2) from if_neg hk)
    rw [hpp, want_ref, want_tag] at hPRC
    rw [hPRC] at HPRI
    have hk0 : ¬ (k : Int) < 0 := by omega
    have hk9 : ¬ (7 : Int) < (k : Int) := by omega
    have HKI := hid hki
    clear hPRC hpp hk
    generalize itoaB t1 = A at *
    generalize itoaB t2 = B at *
    generalize kindB k = K at *
    generalize Hx.mkB (Hx.signD t4 ++ Hx.hex4U t4.natAbs) = X at *
    have hd1 : ¬ (K.size + 1 > 9223372036854775807) := by omega
    have hd2 : ¬ (9223372036854775807 < K.size + 1) := by omega
    have hd3 : ¬ (K.size + 1 + A.size > 9223372036854775807) := by omega
    have hd4 : ¬ (9223372036854775807 < K.size + 1 + A.size) := by omega
    have hd5 : ¬ (K.size + 1 + A.size + 1 > 9223372036854775807) := by omega
    have hd6 : ¬ (9223372036854775807 < K.size + 1 + A.size + 1) := by omega
    have hd7 : ¬ (K.size + 1 + A.size + 1 + B.size > 9223372036854775807) := by omega
    have hd8 : ¬ (9223372036854775807 < K.size + 1 + A.size + 1 + B.size) := by omega
    have hws : (wantB K A B).size ≤ 60 := by
      unfold wantB
      repeat rw [ByteArray.size_append]
      show K.size + 1 + A.size + 1 + B.size ≤ 60
      omega
    have hwd : K ++ ⟨#[32]⟩ ++ A ++ ⟨#[32]⟩ ++ B = wantB K A B := rfl
    have HWD := hid hwd
    have HHH := hid (And.intro hK (And.intro hA hB))
    generalize hwg : wantB K A B = WW at *
    have he1 : ¬ (WW.size + 3 > 9223372036854775807) := by omega
    have he2 : ¬ (9223372036854775807 < WW.size + 3) := by omega
    have he3 : ¬ (WW.size + 3 + X.size > 9223372036854775807) := by omega
    have he4 : ¬ (9223372036854775807 < WW.size + 3 + X.size) := by omega
    have he5 : ¬ (WW.size + 1 > 9223372036854775807) := by omega
    have he6 : ¬ (9223372036854775807 < WW.size + 1) := by omega
    have he7 : ¬ (WW.size + 1 + t3.size > 9223372036854775807) := by omega
    have he8 : ¬ (9223372036854775807 < WW.size + 1 + t3.size) := by omega
    have he9 : ¬ (WW.size + 1 + t3.size + 2 > 9223372036854775807) := by omega
    have he10 : ¬ (9223372036854775807 < WW.size + 1 + t3.size + 2) := by omega
    clear hwd hwg hK hA hB hws hki hk7
    have HR := hid HPRI.out
    clear HPRI
    by_cases hq1 : k = 1
    · have q1 : ((k : Int) == 1) = true := by simpa using (show (k : Int) = 1 by omega)
      have HPRI := hid HR.out
      rw [if_pos (show (k : Int) = 1 by omega)] at HPRI
      have q2 : ((k : Int) == 2) = false := by simpa using (show ¬ (k : Int) = 2 by omega)
      have q3 : ((k : Int) == 3) = false := by simpa using (show ¬ (k : Int) = 3 by omega)
      clear hq1 HR
      go_enter Tryz.func9, Tryz.ntmps9
      go_wp2_with fail
      generalize w.alloc (.cells #[.int .i64 k, .int .i64 t1, .int .i64 t2, .string t3, .int .i32 t4, .bool t5, .bool t6] 53) = w1 at *
      refine (HAW.out _ HBL.out).mono ?_
      rintro e w2 ⟨rfl, hb2⟩
      have hb2s := hb2.size
      have HB2 := hid (HBL.out.trans (hb2.mono HBL.out.size))
      have hcz := HCX.out w2 (by rw [← hw1s]; exact hb2)
      have z0 := hcz 0
      have z1 := hcz 1
      have z2 := hcz 2
      have z3 := hcz 3
      have z4 := hcz 4
      have z5 := hcz 5
      simp only [List.getElem?_toArray, List.getElem?_cons_zero, List.getElem?_cons_succ] at z0 z1 z2 z3 z4 z5
      have HC2 := hid hb2
      clear hb2 x0 x1 x2 x3 x4 x5 hcz
      go_wp2_with fail
      refine (HPRI.out _ HB2.out).mono ?_
      rintro e w3 ⟨rfl, hb3⟩
      have HB3 := hid (HB2.out.trans (hb3.mono HB2.out.size))
      have hcz := HCX.out w3 (by rw [← hw1s]; exact HC2.out.trans (hb3.mono HC2.out.size))
      have x0 := hcz 0
      have x1 := hcz 1
      have x2 := hcz 2
      have x3 := hcz 3
      have x4 := hcz 4
      have x5 := hcz 5
      simp only [List.getElem?_toArray, List.getElem?_cons_zero, List.getElem?_cons_succ] at x0 x1 x2 x3 x4 x5
      have hs3 := hb3.size
      have hs3b : w.heap.size < w3.heap.size := by have := HLT.out; omega
      clear hb3 hcz z0 z1 z2 z3 z4 z5
      have hki := HKI.out w3
      have hf1 : Below w3.heap.size w3 (w3.alloc (.cells #[.string ⟨#[116, 101, 120, 116]⟩, .string ⟨#[114, 101, 102]⟩, .string ⟨#[115, 116, 97, 114, 116]⟩, .string ⟨#[101, 110, 100]⟩, .string ⟨#[99, 111, 109, 109, 101, 110, 116]⟩, .string ⟨#[100, 101, 99, 108]⟩, .string ⟨#[101, 115, 99, 97, 112, 101]⟩, .string ⟨#[114, 97, 119]⟩] 9)) := (Below.refl _ _).alloc (Nat.le_refl _) _
      have HB5 := hid (HB3.out.trans (hf1.mono HB3.out.size))
      have y0 := (hf1.cell (p := ⟨w.heap.size, 0, none⟩) hs3b).trans x0
      have y1 := (hf1.cell (p := ⟨w.heap.size, 1, none⟩) hs3b).trans x1
      have y2 := (hf1.cell (p := ⟨w.heap.size, 2, none⟩) hs3b).trans x2
      have y3 := (hf1.cell (p := ⟨w.heap.size, 3, none⟩) hs3b).trans x3
      have y4 := (hf1.cell (p := ⟨w.heap.size, 4, none⟩) hs3b).trans x4
      have y5 := (hf1.cell (p := ⟨w.heap.size, 5, none⟩) hs3b).trans x5
      clear hf1
      go_upto_region 7 with fail
      generalize w3.alloc (.cells #[.string ⟨#[116, 101, 120, 116]⟩, .string ⟨#[114, 101, 102]⟩, .string ⟨#[115, 116, 97, 114, 116]⟩, .string ⟨#[101, 110, 100]⟩, .string ⟨#[99, 111, 109, 109, 101, 110, 116]⟩, .string ⟨#[100, 101, 99, 108]⟩, .string ⟨#[101, 115, 99, 97, 112, 101]⟩, .string ⟨#[114, 97, 119]⟩] 9) = w5 at *
      clear x0 x1 x2 x3 x4 x5 hki
      go_quiet (first | with_reducible exact Calls.quiet_of_same (HNUM1.out _) | with_reducible exact Calls.quiet_of_same (HNUM2.out _))
      rw [HWD.out]
      go_wp2_with (first | (go_at_call 26; refine (HKD.out _).mono ?_; rintro e w8 ⟨rfl, hw8⟩; rw [hw8]; clear hw8) | (go_at_call 29; refine (HHEX.out _).mono ?_; rintro e w8 ⟨rfl, hw8⟩; rw [hw8]; clear hw8))
      go_ret
      exact ⟨rfl, HB5.out.trans (below_drewN _ _ _)⟩
    have q1 : ((k : Int) == 1) = false := by simpa using (show ¬ (k : Int) = 1 by omega)
    by_cases hq2 : k = 2
    · have q2 : ((k : Int) == 2) = true := by simpa using (show (k : Int) = 2 by omega)
      have HPRI := hid HR.out
      rw [if_neg (show ¬ (k : Int) = 1 by omega), if_pos (.inl (show (k : Int) = 2 by omega))] at HPRI
      clear hq1 hq2 HR
      cases t5
      · rw [if_neg (by decide)] at HPRI
        go_enter Tryz.func9, Tryz.ntmps9
        go_wp2_with fail
        generalize w.alloc (.cells #[.int .i64 k, .int .i64 t1, .int .i64 t2, .string t3, .int .i32 t4, .bool false, .bool t6] 53) = w1 at *
        refine (HAW.out _ HBL.out).mono ?_
        rintro e w2 ⟨rfl, hb2⟩
        have hb2s := hb2.size
        have HB2 := hid (HBL.out.trans (hb2.mono HBL.out.size))
        have hcz := HCX.out w2 (by rw [← hw1s]; exact hb2)
        have z0 := hcz 0
        have z1 := hcz 1
        have z2 := hcz 2
        have z3 := hcz 3
        have z4 := hcz 4
        have z5 := hcz 5
        simp only [List.getElem?_toArray, List.getElem?_cons_zero, List.getElem?_cons_succ] at z0 z1 z2 z3 z4 z5
        have HC2 := hid hb2
        clear hb2 x0 x1 x2 x3 x4 x5 hcz
        go_wp2_with fail
        refine (HPRI.out _ HB2.out).mono ?_
        rintro e w3 ⟨rfl, hb3⟩
        have HB3 := hid (HB2.out.trans (hb3.mono HB2.out.size))
        have hcz := HCX.out w3 (by rw [← hw1s]; exact HC2.out.trans (hb3.mono HC2.out.size))
        have x0 := hcz 0
        have x1 := hcz 1
        have x2 := hcz 2
        have x3 := hcz 3
        have x4 := hcz 4
        have x5 := hcz 5
        simp only [List.getElem?_toArray, List.getElem?_cons_zero, List.getElem?_cons_succ] at x0 x1 x2 x3 x4 x5
        have hs3 := hb3.size
        have hs3b : w.heap.size < w3.heap.size := by have := HLT.out; omega
        clear hb3 hcz z0 z1 z2 z3 z4 z5
        have hki := HKI.out w3
        have hf1 : Below w3.heap.size w3 (w3.alloc (.cells #[.string ⟨#[116, 101, 120, 116]⟩, .string ⟨#[114, 101, 102]⟩, .string ⟨#[115, 116, 97, 114, 116]⟩, .string ⟨#[101, 110, 100]⟩, .string ⟨#[99, 111, 109, 109, 101, 110, 116]⟩, .string ⟨#[100, 101, 99, 108]⟩, .string ⟨#[101, 115, 99, 97, 112, 101]⟩, .string ⟨#[114, 97, 119]⟩] 9)) := (Below.refl _ _).alloc (Nat.le_refl _) _
        have HB5 := hid (HB3.out.trans (hf1.mono HB3.out.size))
        have y0 := (hf1.cell (p := ⟨w.heap.size, 0, none⟩) hs3b).trans x0
        have y1 := (hf1.cell (p := ⟨w.heap.size, 1, none⟩) hs3b).trans x1
        have y2 := (hf1.cell (p := ⟨w.heap.size, 2, none⟩) hs3b).trans x2
        have y3 := (hf1.cell (p := ⟨w.heap.size, 3, none⟩) hs3b).trans x3
        have y4 := (hf1.cell (p := ⟨w.heap.size, 4, none⟩) hs3b).trans x4
        have y5 := (hf1.cell (p := ⟨w.heap.size, 5, none⟩) hs3b).trans x5
        clear hf1
        go_upto_region 7 with fail
        generalize w3.alloc (.cells #[.string ⟨#[116, 101, 120, 116]⟩, .string ⟨#[114, 101, 102]⟩, .string ⟨#[115, 116, 97, 114, 116]⟩, .string ⟨#[101, 110, 100]⟩, .string ⟨#[99, 111, 109, 109, 101, 110, 116]⟩, .string ⟨#[100, 101, 99, 108]⟩, .string ⟨#[101, 115, 99, 97, 112, 101]⟩, .string ⟨#[114, 97, 119]⟩] 9) = w5 at *
        clear x0 x1 x2 x3 x4 x5 hki
        go_quiet (first | with_reducible exact Calls.quiet_of_same (HNUM1.out _) | with_reducible exact Calls.quiet_of_same (HNUM2.out _))
        rw [HWD.out]
        go_wp2_with (first | (go_at_call 26; refine (HKD.out _).mono ?_; rintro e w8 ⟨rfl, hw8⟩; rw [hw8]; clear hw8) | (go_at_call 29; refine (HHEX.out _).mono ?_; rintro e w8 ⟨rfl, hw8⟩; rw [hw8]; clear hw8))
        go_ret
        exact ⟨rfl, HB5.out.trans (below_drewN _ _ _)⟩
      · rw [if_pos rfl] at HPRI
        unfold slB at HPRI
        go_enter Tryz.func9, Tryz.ntmps9
        go_wp2_with fail
        generalize w.alloc (.cells #[.int .i64 k, .int .i64 t1, .int .i64 t2, .string t3, .int .i32 t4, .bool true, .bool t6] 53) = w1 at *
        refine (HAW.out _ HBL.out).mono ?_
        rintro e w2 ⟨rfl, hb2⟩
        have hb2s := hb2.size
        have HB2 := hid (HBL.out.trans (hb2.mono HBL.out.size))
        have hcz := HCX.out w2 (by rw [← hw1s]; exact hb2)
        have z0 := hcz 0
        have z1 := hcz 1
        have z2 := hcz 2
        have z3 := hcz 3
        have z4 := hcz 4
        have z5 := hcz 5
        simp only [List.getElem?_toArray, List.getElem?_cons_zero, List.getElem?_cons_succ] at z0 z1 z2 z3 z4 z5
        have HC2 := hid hb2
        clear hb2 x0 x1 x2 x3 x4 x5 hcz
        go_wp2_with fail
        refine (HPRI.out _ HB2.out).mono ?_
        rintro e w3 ⟨rfl, hb3⟩
        have HB3 := hid (HB2.out.trans (hb3.mono HB2.out.size))
        have hcz := HCX.out w3 (by rw [← hw1s]; exact HC2.out.trans (hb3.mono HC2.out.size))
        have x0 := hcz 0
        have x1 := hcz 1
        have x2 := hcz 2
        have x3 := hcz 3
        have x4 := hcz 4
        have x5 := hcz 5
        simp only [List.getElem?_toArray, List.getElem?_cons_zero, List.getElem?_cons_succ] at x0 x1 x2 x3 x4 x5
        have hs3 := hb3.size
        have hs3b : w.heap.size < w3.heap.size := by have := HLT.out; omega
        clear hb3 hcz z0 z1 z2 z3 z4 z5
        have hki := HKI.out w3
        have hf1 : Below w3.heap.size w3 (w3.alloc (.cells #[.string ⟨#[116, 101, 120, 116]⟩, .string ⟨#[114, 101, 102]⟩, .string ⟨#[115, 116, 97, 114, 116]⟩, .string ⟨#[101, 110, 100]⟩, .string ⟨#[99, 111, 109, 109, 101, 110, 116]⟩, .string ⟨#[100, 101, 99, 108]⟩, .string ⟨#[101, 115, 99, 97, 112, 101]⟩, .string ⟨#[114, 97, 119]⟩] 9)) := (Below.refl _ _).alloc (Nat.le_refl _) _
        have HB5 := hid (HB3.out.trans (hf1.mono HB3.out.size))
        have y0 := (hf1.cell (p := ⟨w.heap.size, 0, none⟩) hs3b).trans x0
        have y1 := (hf1.cell (p := ⟨w.heap.size, 1, none⟩) hs3b).trans x1
        have y2 := (hf1.cell (p := ⟨w.heap.size, 2, none⟩) hs3b).trans x2
        have y3 := (hf1.cell (p := ⟨w.heap.size, 3, none⟩) hs3b).trans x3
        have y4 := (hf1.cell (p := ⟨w.heap.size, 4, none⟩) hs3b).trans x4
        have y5 := (hf1.cell (p := ⟨w.heap.size, 5, none⟩) hs3b).trans x5
        clear hf1
        go_upto_region 7 with fail
        generalize w3.alloc (.cells #[.string ⟨#[116, 101, 120, 116]⟩, .string ⟨#[114, 101, 102]⟩, .string ⟨#[115, 116, 97, 114, 116]⟩, .string ⟨#[101, 110, 100]⟩, .string ⟨#[99, 111, 109, 109, 101, 110, 116]⟩, .string ⟨#[100, 101, 99, 108]⟩, .string ⟨#[101, 115, 99, 97, 112, 101]⟩, .string ⟨#[114, 97, 119]⟩] 9) = w5 at *
        clear x0 x1 x2 x3 x4 x5 hki
        go_quiet (first | with_reducible exact Calls.quiet_of_same (HNUM1.out _) | with_reducible exact Calls.quiet_of_same (HNUM2.out _))
        rw [HWD.out]
        go_wp2_with (first | (go_at_call 26; refine (HKD.out _).mono ?_; rintro e w8 ⟨rfl, hw8⟩; rw [hw8]; clear hw8) | (go_at_call 29; refine (HHEX.out _).mono ?_; rintro e w8 ⟨rfl, hw8⟩; rw [hw8]; clear hw8))
        go_ret
        exact ⟨rfl, HB5.out.trans (below_drewN _ _ _)⟩
    have q2 : ((k : Int) == 2) = false := by simpa using (show ¬ (k : Int) = 2 by omega)
    by_cases hq3 : k = 3
    · have q3 : ((k : Int) == 3) = true := by simpa using (show (k : Int) = 3 by omega)
      have HPRI := hid HR.out
      rw [if_neg (show ¬ (k : Int) = 1 by omega), if_pos (.inr (show (k : Int) = 3 by omega))] at HPRI
      clear hq1 hq2 hq3 HR
      cases t5
      · rw [if_neg (by decide)] at HPRI
        go_enter Tryz.func9, Tryz.ntmps9
        go_wp2_with fail
        generalize w.alloc (.cells #[.int .i64 k, .int .i64 t1, .int .i64 t2, .string t3, .int .i32 t4, .bool false, .bool t6] 53) = w1 at *
        refine (HAW.out _ HBL.out).mono ?_
        rintro e w2 ⟨rfl, hb2⟩
        have hb2s := hb2.size
        have HB2 := hid (HBL.out.trans (hb2.mono HBL.out.size))
        have hcz := HCX.out w2 (by rw [← hw1s]; exact hb2)
        have z0 := hcz 0
        have z1 := hcz 1
        have z2 := hcz 2
        have z3 := hcz 3
        have z4 := hcz 4
        have z5 := hcz 5
        simp only [List.getElem?_toArray, List.getElem?_cons_zero, List.getElem?_cons_succ] at z0 z1 z2 z3 z4 z5
        have HC2 := hid hb2
        clear hb2 x0 x1 x2 x3 x4 x5 hcz
        go_wp2_with fail
        refine (HPRI.out _ HB2.out).mono ?_
        rintro e w3 ⟨rfl, hb3⟩
        have HB3 := hid (HB2.out.trans (hb3.mono HB2.out.size))
        have hcz := HCX.out w3 (by rw [← hw1s]; exact HC2.out.trans (hb3.mono HC2.out.size))
        have x0 := hcz 0
        have x1 := hcz 1
        have x2 := hcz 2
        have x3 := hcz 3
        have x4 := hcz 4
        have x5 := hcz 5
        simp only [List.getElem?_toArray, List.getElem?_cons_zero, List.getElem?_cons_succ] at x0 x1 x2 x3 x4 x5
        have hs3 := hb3.size
        have hs3b : w.heap.size < w3.heap.size := by have := HLT.out; omega
        clear hb3 hcz z0 z1 z2 z3 z4 z5
        have hki := HKI.out w3
        have hf1 : Below w3.heap.size w3 (w3.alloc (.cells #[.string ⟨#[116, 101, 120, 116]⟩, .string ⟨#[114, 101, 102]⟩, .string ⟨#[115, 116, 97, 114, 116]⟩, .string ⟨#[101, 110, 100]⟩, .string ⟨#[99, 111, 109, 109, 101, 110, 116]⟩, .string ⟨#[100, 101, 99, 108]⟩, .string ⟨#[101, 115, 99, 97, 112, 101]⟩, .string ⟨#[114, 97, 119]⟩] 9)) := (Below.refl _ _).alloc (Nat.le_refl _) _
        have HB5 := hid (HB3.out.trans (hf1.mono HB3.out.size))
        have y0 := (hf1.cell (p := ⟨w.heap.size, 0, none⟩) hs3b).trans x0
        have y1 := (hf1.cell (p := ⟨w.heap.size, 1, none⟩) hs3b).trans x1
        have y2 := (hf1.cell (p := ⟨w.heap.size, 2, none⟩) hs3b).trans x2
        have y3 := (hf1.cell (p := ⟨w.heap.size, 3, none⟩) hs3b).trans x3
        have y4 := (hf1.cell (p := ⟨w.heap.size, 4, none⟩) hs3b).trans x4
        have y5 := (hf1.cell (p := ⟨w.heap.size, 5, none⟩) hs3b).trans x5
        clear hf1
        go_upto_region 7 with fail
        generalize w3.alloc (.cells #[.string ⟨#[116, 101, 120, 116]⟩, .string ⟨#[114, 101, 102]⟩, .string ⟨#[115, 116, 97, 114, 116]⟩, .string ⟨#[101, 110, 100]⟩, .string ⟨#[99, 111, 109, 109, 101, 110, 116]⟩, .string ⟨#[100, 101, 99, 108]⟩, .string ⟨#[101, 115, 99, 97, 112, 101]⟩, .string ⟨#[114, 97, 119]⟩] 9) = w5 at *
        clear x0 x1 x2 x3 x4 x5 hki
        go_quiet (first | with_reducible exact Calls.quiet_of_same (HNUM1.out _) | with_reducible exact Calls.quiet_of_same (HNUM2.out _))
        rw [HWD.out]
        go_wp2_with (first | (go_at_call 26; refine (HKD.out _).mono ?_; rintro e w8 ⟨rfl, hw8⟩; rw [hw8]; clear hw8) | (go_at_call 29; refine (HHEX.out _).mono ?_; rintro e w8 ⟨rfl, hw8⟩; rw [hw8]; clear hw8))
        go_ret
        exact ⟨rfl, HB5.out.trans (below_drewN _ _ _)⟩
      · rw [if_pos rfl] at HPRI
        unfold slB at HPRI
        go_enter Tryz.func9, Tryz.ntmps9
        go_wp2_with fail
        generalize w.alloc (.cells #[.int .i64 k, .int .i64 t1, .int .i64 t2, .string t3, .int .i32 t4, .bool true, .bool t6] 53) = w1 at *
        refine (HAW.out _ HBL.out).mono ?_
        rintro e w2 ⟨rfl, hb2⟩
        have hb2s := hb2.size
        have HB2 := hid (HBL.out.trans (hb2.mono HBL.out.size))
        have hcz := HCX.out w2 (by rw [← hw1s]; exact hb2)
        have z0 := hcz 0
        have z1 := hcz 1
        have z2 := hcz 2
        have z3 := hcz 3
        have z4 := hcz 4
        have z5 := hcz 5
        simp only [List.getElem?_toArray, List.getElem?_cons_zero, List.getElem?_cons_succ] at z0 z1 z2 z3 z4 z5
        have HC2 := hid hb2
        clear hb2 x0 x1 x2 x3 x4 x5 hcz
        go_wp2_with fail
        refine (HPRI.out _ HB2.out).mono ?_
        rintro e w3 ⟨rfl, hb3⟩
        have HB3 := hid (HB2.out.trans (hb3.mono HB2.out.size))
        have hcz := HCX.out w3 (by rw [← hw1s]; exact HC2.out.trans (hb3.mono HC2.out.size))
        have x0 := hcz 0
        have x1 := hcz 1
        have x2 := hcz 2
        have x3 := hcz 3
        have x4 := hcz 4
        have x5 := hcz 5
        simp only [List.getElem?_toArray, List.getElem?_cons_zero, List.getElem?_cons_succ] at x0 x1 x2 x3 x4 x5
        have hs3 := hb3.size
        have hs3b : w.heap.size < w3.heap.size := by have := HLT.out; omega
        clear hb3 hcz z0 z1 z2 z3 z4 z5
        have hki := HKI.out w3
        have hf1 : Below w3.heap.size w3 (w3.alloc (.cells #[.string ⟨#[116, 101, 120, 116]⟩, .string ⟨#[114, 101, 102]⟩, .string ⟨#[115, 116, 97, 114, 116]⟩, .string ⟨#[101, 110, 100]⟩, .string ⟨#[99, 111, 109, 109, 101, 110, 116]⟩, .string ⟨#[100, 101, 99, 108]⟩, .string ⟨#[101, 115, 99, 97, 112, 101]⟩, .string ⟨#[114, 97, 119]⟩] 9)) := (Below.refl _ _).alloc (Nat.le_refl _) _
        have HB5 := hid (HB3.out.trans (hf1.mono HB3.out.size))
        have y0 := (hf1.cell (p := ⟨w.heap.size, 0, none⟩) hs3b).trans x0
        have y1 := (hf1.cell (p := ⟨w.heap.size, 1, none⟩) hs3b).trans x1
        have y2 := (hf1.cell (p := ⟨w.heap.size, 2, none⟩) hs3b).trans x2
        have y3 := (hf1.cell (p := ⟨w.heap.size, 3, none⟩) hs3b).trans x3
        have y4 := (hf1.cell (p := ⟨w.heap.size, 4, none⟩) hs3b).trans x4
        have y5 := (hf1.cell (p := ⟨w.heap.size, 5, none⟩) hs3b).trans x5
        clear hf1
        go_upto_region 7 with fail
        generalize w3.alloc (.cells #[.string ⟨#[116, 101, 120, 116]⟩, .string ⟨#[114, 101, 102]⟩, .string ⟨#[115, 116, 97, 114, 116]⟩, .string ⟨#[101, 110, 100]⟩, .string ⟨#[99, 111, 109, 109, 101, 110, 116]⟩, .string ⟨#[100, 101, 99, 108]⟩, .string ⟨#[101, 115, 99, 97, 112, 101]⟩, .string ⟨#[114, 97, 119]⟩] 9) = w5 at *
        clear x0 x1 x2 x3 x4 x5 hki
        go_quiet (first | with_reducible exact Calls.quiet_of_same (HNUM1.out _) | with_reducible exact Calls.quiet_of_same (HNUM2.out _))
        rw [HWD.out]
        go_wp2_with (first | (go_at_call 26; refine (HKD.out _).mono ?_; rintro e w8 ⟨rfl, hw8⟩; rw [hw8]; clear hw8) | (go_at_call 29; refine (HHEX.out _).mono ?_; rintro e w8 ⟨rfl, hw8⟩; rw [hw8]; clear hw8))
        go_ret
        exact ⟨rfl, HB5.out.trans (below_drewN _ _ _)⟩
    have q3 : ((k : Int) == 3) = false := by simpa using (show ¬ (k : Int) = 3 by omega)
    have HPRI := hid HR.out
    rw [if_neg (show ¬ (k : Int) = 1 by omega), if_neg (fun h => h.elim (fun h => hq2 (by omega)) (fun h => hq3 (by omega)))] at HPRI
    clear hq1 hq2 hq3 HR
    go_enter Tryz.func9, Tryz.ntmps9
    go_wp2_with fail
    generalize w.alloc (.cells #[.int .i64 k, .int .i64 t1, .int .i64 t2, .string t3, .int .i32 t4, .bool t5, .bool t6] 53) = w1 at *
    refine (HAW.out _ HBL.out).mono ?_
    rintro e w2 ⟨rfl, hb2⟩
    have hb2s := hb2.size
    have HB2 := hid (HBL.out.trans (hb2.mono HBL.out.size))
    have hcz := HCX.out w2 (by rw [← hw1s]; exact hb2)
    have z0 := hcz 0
    have z1 := hcz 1
    have z2 := hcz 2
    have z3 := hcz 3
    have z4 := hcz 4
    have z5 := hcz 5
    simp only [List.getElem?_toArray, List.getElem?_cons_zero, List.getElem?_cons_succ] at z0 z1 z2 z3 z4 z5
    have HC2 := hid hb2
    clear hb2 x0 x1 x2 x3 x4 x5 hcz
    go_wp2_with fail
    refine (HPRI.out _ HB2.out).mono ?_
    rintro e w3 ⟨rfl, hb3⟩
    have HB3 := hid (HB2.out.trans (hb3.mono HB2.out.size))
    have hcz := HCX.out w3 (by rw [← hw1s]; exact HC2.out.trans (hb3.mono HC2.out.size))
    have x0 := hcz 0
    have x1 := hcz 1
    have x2 := hcz 2
    have x3 := hcz 3
    have x4 := hcz 4
    have x5 := hcz 5
    simp only [List.getElem?_toArray, List.getElem?_cons_zero, List.getElem?_cons_succ] at x0 x1 x2 x3 x4 x5
    have hs3 := hb3.size
    have hs3b : w.heap.size < w3.heap.size := by have := HLT.out; omega
    clear hb3 hcz z0 z1 z2 z3 z4 z5
    have hki := HKI.out w3
    have hf1 : Below w3.heap.size w3 (w3.alloc (.cells #[.string ⟨#[116, 101, 120, 116]⟩, .string ⟨#[114, 101, 102]⟩, .string ⟨#[115, 116, 97, 114, 116]⟩, .string ⟨#[101, 110, 100]⟩, .string ⟨#[99, 111, 109, 109, 101, 110, 116]⟩, .string ⟨#[100, 101, 99, 108]⟩, .string ⟨#[101, 115, 99, 97, 112, 101]⟩, .string ⟨#[114, 97, 119]⟩] 9)) := (Below.refl _ _).alloc (Nat.le_refl _) _
    have HB5 := hid (HB3.out.trans (hf1.mono HB3.out.size))
    have y0 := (hf1.cell (p := ⟨w.heap.size, 0, none⟩) hs3b).trans x0
    have y1 := (hf1.cell (p := ⟨w.heap.size, 1, none⟩) hs3b).trans x1
    have y2 := (hf1.cell (p := ⟨w.heap.size, 2, none⟩) hs3b).trans x2
    have y3 := (hf1.cell (p := ⟨w.heap.size, 3, none⟩) hs3b).trans x3
    have y4 := (hf1.cell (p := ⟨w.heap.size, 4, none⟩) hs3b).trans x4
    have y5 := (hf1.cell (p := ⟨w.heap.size, 5, none⟩) hs3b).trans x5
    clear hf1
    go_upto_region 7 with fail
    generalize w3.alloc (.cells #[.string ⟨#[116, 101, 120, 116]⟩, .string ⟨#[114, 101, 102]⟩, .string ⟨#[115, 116, 97, 114, 116]⟩, .string ⟨#[101, 110, 100]⟩, .string ⟨#[99, 111, 109, 109, 101, 110, 116]⟩, .string ⟨#[100, 101, 99, 108]⟩, .string ⟨#[101, 115, 99, 97, 112, 101]⟩, .string ⟨#[114, 97, 119]⟩] 9) = w5 at *
    clear x0 x1 x2 x3 x4 x5 hki
    go_quiet (first | with_reducible exact Calls.quiet_of_same (HNUM1.out _) | with_reducible exact Calls.quiet_of_same (HNUM2.out _))
    rw [HWD.out]
    go_wp2_with (first | (go_at_call 26; refine (HKD.out _).mono ?_; rintro e w8 ⟨rfl, hw8⟩; rw [hw8]; clear hw8) | (go_at_call 29; refine (HHEX.out _).mono ?_; rintro e w8 ⟨rfl, hw8⟩; rw [hw8]; clear hw8))
    go_ret
    exact ⟨rfl, HB5.out.trans (below_drewN _ _ _)⟩
end Go.Proofs.YtaklajbifkljjaaGreatDoor.tokenPrints
