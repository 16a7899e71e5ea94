/- strconv.FormatInt of base sixteen: walks (of no chapter). -/
import Derived.Test.YtbkjanlkklmleaaGreatDoorHex
import Derived.Deep.CutBlock
import Derived.StillTailTactics
import Derived.Laws.Bits64b
namespace Go.Proofs.YtbkjanlkklmleaaGreatDoor
open Go.RowKit
open Go.Shelf
open Go.Lib (hid)
set_option linter.unusedVariables false
set_option maxRecDepth 100000

theorem ext_allX (s : ByteArray) : s.extract 0 s.size = s := by
  apply ByteArray.ext
  rw [ByteArray.data_extract]
  exact Array.extract_size
theorem getCX (s : ByteArray) (i : Nat) (h : i < s.size) : ((s[i]'h).toNat : Int) = byt s i := by
  have := getB s i h
  have h0 := (byt_nonneg s i).1
  omega
theorem conv_headX {W : World} {b off : Nat} {s : ByteArray} (hz : Lib.Bytes W b off s) (k c : Nat) (h2 : k ≤ s.size) : (convert 57 9 (.slice (some ⟨b, off, none⟩) k c)).run Tryz.prog W = .ok (.string (s.extract 0 k)) W := by
  have := Lib.run_convert_window (P := Tryz.prog) W 57 5 9 Tryz.underlying57 Tryz.underlying5 Tryz.underlying9 b off s hz 0 k c (by omega)
  rw [Nat.zero_add, Nat.add_zero] at this
  exact this
/-- The table's cell that sixteen reads. -/
def Db (w : World) : Prop := w.cell? ⟨7, 15, none⟩ = some (.int .u8 4)
theorem Db.below {w w' : World} {B : Nat} (h : Db w) (hb : Below B w w') (hB : w.heap.size ≤ B) : Db w' := by
  have := World.block_lt_of_cell? _ _ h
  exact (hb.cell (p := ⟨7, 15, none⟩) (by show _ < B; omega)).trans h
theorem tz64_any (w : World) (hc : Db w) : Calls Tryz.prog 102 #[.int .u64 16] w fun e w' => e = .returned (.int .i64 4) ∧ w' = w := by
  have hc : w.cell? ⟨7, 15, none⟩ = some (.int .u8 4) := hc
  have e1 : IntKind.u64.wrap (-16) = 18446744073709551600 := by decide
  have e2 : bits BinOp.and IntKind.u64 16 18446744073709551600 = 16 := by decide
  have e3 : IntKind.u64.wrap 4573921408821661840 = 4573921408821661840 := by decide
  go_enter Tryz.func102, Tryz.ntmps102
  go_wp2_with fail
  go_ret
  exact ⟨rfl, rfl⟩
theorem tz_any (w : World) (hc : Db w) : Calls Tryz.prog 87 #[.int .u64 16] w fun e w' => e = .returned (.int .i64 4) ∧ w' = w := by
  have HT := hid (tz64_any w hc)
  clear hc
  go_enter Tryz.func87, Tryz.ntmps87
  go_wp2_with (go_at_call 102; refine HT.out.mono ?_; rintro e w2 ⟨rfl, hw2⟩; obtain rfl : w = w2 := hw2.symm)
  go_ret
  exact ⟨rfl, rfl⟩
theorem pow2_any (w : World) : Calls Tryz.prog 86 #[.int .i64 16] w fun e w' => e = .returned (.bool true) ∧ w' = w := by
  have e1 : bits BinOp.and IntKind.i64 16 15 = 0 := by decide
  go_enter Tryz.func86, Tryz.ntmps86
  go_wp2_with fail
  go_ret
  exact ⟨rfl, rfl⟩
noncomputable def zero65 : Array Value := ((Tryz.prog.info? 121).bind (·.zero)).get!.cells
theorem zero65_run (w : World) : (Instr.alloc 121 true (.tuple #[])).run Tryz.prog w = .ok (.pointer (some ⟨w.heap.size, 0, none⟩)) (w.alloc (.cells zero65 121)) := by kernel_rfl
theorem zero65_size : zero65.size = 65 := by kernel_rfl
def digS : ByteArray := ⟨#[48, 49, 50, 51, 52, 53, 54, 55, 56, 57, 97, 98, 99, 100, 101, 102, 103, 104, 105, 106, 107, 108, 109, 110, 111, 112, 113, 114, 115, 116, 117, 118, 119, 120, 121, 122]⟩
theorem digS_at : ∀ k : Fin 16, byt digS k.val = ((dg k.val).toNat : Int) := by decide
theorem and15 (u : Nat) (h : u < 16777216) : bits .and .u64 (u : Int) 15 = ((u % 16 : Nat) : Int) := by
  have := bits_mask .u64 63 (by decide) (fun n h0 h1 => by rw [IntKind.wrap_u64]; omega) 4 (by decide) (u : Int) (by omega) (by omega)
  rw [show ((2 : Int) ^ 4 - 1) = 15 from rfl, show ((2 : Int) ^ 4) = 16 from rfl] at this
  rw [this]
  omega
def DigAt (cur : Array Value) (i : Nat) (D : List UInt8) : Prop := cur.size = 65 ∧ i + D.length = 65 ∧ ∀ j, j < D.length → cur[i + j]? = some (.int .u8 ((D.getD j 0).toNat : Int))
theorem DigAt.more {cur : Array Value} {i : Nat} {D : List UInt8} (h : DigAt cur (i + 1) D) (d : UInt8) : DigAt (cur.setIfInBounds i (.int .u8 (d.toNat : Int))) i (d :: D) := by
  obtain ⟨h1, h2, h3⟩ := h
  refine ⟨by simp [h1], by rw [List.length_cons]; omega, fun j hj => ?_⟩
  rw [List.length_cons] at hj
  cases j with
  | zero =>
    rw [Nat.add_zero, Array.getElem?_setIfInBounds_self_of_lt (by omega)]
    rfl
  | succ j =>
    rw [Array.getElem?_setIfInBounds_ne (by omega)]
    have := h3 j (by omega)
    rw [show i + 1 + j = i + (j + 1) by omega] at this
    rw [this]
    rfl

theorem slice65 (W : World) (g k : Nat) (h : k < 65) : (Instr.sliceAt 121 (.pointer (some ⟨g, 0, none⟩)) (some (.int .i64 k)) none none).run Tryz.prog W = .ok (.slice (some ⟨g, k, none⟩) (65 - k) (65 - k)) W := by
  have hal : Tryz.prog.arrayLen 121 = 65 := by simp [Program.arrayLen, Tryz.underlying121]
  rw [run_sliceAt_array_l W 121 ⟨g, 0, none⟩ (by simp [Program.arrayLen, Program.elem, Tryz.underlying121]) .i64 k (by omega) (by rw [hal]; omega)]
  have hs : (sizeOf (Tryz.prog.elem 121)).run Tryz.prog W = .ok 1 W := by go_simp
  rw [hs, hal]
  have hk : ¬ 65 = k := by omega
  simp [Result.andThen, slicedAt, hk, Addr.add]
  omega
theorem conv_dig {W : World} {g k : Nat} {cur : Array Value} {D : List UInt8} {t : TypeId} (hb : Blk W g t cur) (hd : DigAt cur k D) : (convert 57 9 (.slice (some ⟨g, k, none⟩) (65 - k) (65 - k))).run Tryz.prog W = .ok (.string ⟨D.toArray⟩) W := by
  obtain ⟨h1, h2, h3⟩ := hd
  have hz : Lib.Bytes W g k ⟨D.toArray⟩ := by
    apply bytes_of_byt
    intro i hi
    have hi' : i < D.length := by simpa [ByteArray.size] using hi
    rw [hb.cell, h3 i hi']
    congr 2
    unfold byt
    simp [Array.getD_eq_getD_getElem?, List.getD_eq_getElem?_getD, hi']
  have hs : (⟨D.toArray⟩ : ByteArray).size = 65 - k := by simp [ByteArray.size]; omega
  have := conv_headX hz (65 - k) (65 - k) (by omega)
  rw [this]
  congr 2
  rw [← hs]
  exact ext_allX _
set_option maxRecDepth 100000 in
set_option maxHeartbeats 8000000 in
theorem fbits_any (r : Nat) (hr : r < 16777216) (w : World) (hdb : Db w) :
    Calls Tryz.prog 56 #[.slice none 0 0, .int .u64 r, .int .i64 16, .bool false, .bool false] w fun e w' => e = .returned (.tuple #[.slice none 0 0, .string (hexB r)]) ∧ Below w.heap.size w w' := by
  have hdl := World.block_lt_of_cell? _ _ hdb
  have hb1 := (Below.refl w.heap.size w).alloc (Nat.le_refl _) (.cells zero65 121)
  have hr1 := Blk.new w 121 zero65
  have HDB := hid (fun (W : World) (hW : Below w.heap.size w W) => hdb.below hW (Nat.le_refl _))
  have HB1 := hid hb1
  have HR1 := hid hr1
  clear hb1 hr1 hdb
  go_enter Tryz.func56, Tryz.ntmps56
  go_upto_region 4 with (first
    | (go_at_call 86; refine (pow2_any _).mono ?_; rintro e w2 ⟨rfl, hw2⟩; obtain rfl := hw2)
    | (with_reducible refine wpList_allocZ 12 121 _ zero65 121 zero65_run ?_))
  generalize w.alloc (.cells zero65 121) = w1 at *
  have HT1 := hid (tz_any w1 (HDB.out w1 HB1.out))
  have HP1 := hid (pow2_any w1)
  go_wp2_with (first
    | (go_at_call 86; refine HP1.out.mono ?_; rintro e w2 ⟨rfl, hw2⟩; obtain rfl : w1 = w2 := hw2.symm)
    | (go_at_call 87; refine HT1.out.mono ?_; rintro e w2 ⟨rfl, hw2⟩; obtain rfl : w1 = w2 := hw2.symm))
  clear HT1 HP1 HDB
  have hrl : (hexD r).length ≤ 6 := hexD_len 6 r (by decide) (by show _ < 16777216; omega)
  have HRL := hid hrl
  have HRR := hid hr
  clear hrl hr
  go_loopg [1, 13] r (fun kx s1 s13 wr => ∃ (u i : Nat) (cur : Array Value) (D : List UInt8), s1 = .int .u64 u ∧ s13 = .int .i64 i ∧ u ≤ kx ∧ Hid (u ≤ r) ∧ Hid (hexD r = hexD u ++ D) ∧ Hid (DigAt cur i D) ∧ Hid (Blk wr w.heap.size 121 cur) ∧ Hid (Below w.heap.size w wr))
  case atStart => exact ⟨r, 65, zero65, [], rfl, rfl, Nat.le_refl _, Nat.le_refl _, (List.append_nil _).symm, ⟨zero65_size, rfl, fun j hj => absurd hj (Nat.not_lt_zero _)⟩, HR1.out, HB1.out⟩
  case round =>
    obtain ⟨u, i, cur, D, rfl, rfl, hg, HU, HH, HD, HBK, HB⟩ := hrel
    have hlen : D.length ≤ 5 ∧ i + D.length = 65 := by
      have h1 := congrArg List.length HH.out
      rw [List.length_append] at h1
      have := HRL.out
      have := hexD_pos u
      exact ⟨by omega, HD.out.2.1⟩
    obtain ⟨k, rfl⟩ : ∃ k, i = k + 1 := ⟨i - 1, by omega⟩
    have hk1 : ((k + 1 : Nat) : Int) - 1 = (k : Int) := by omega
    have hk65 : (k : Int) < 65 := by omega
    have hold : wr.cell? ⟨w.heap.size, k, none⟩ = some (cur[k]'(by have := HD.out.1; omega)) := by
      rw [HBK.out.cell, Array.getElem?_eq_getElem]
    have hfr := HBK.out.frozen k
    have hfr0 := HBK.out.frozen
    generalize cur[k]'(by have := HD.out.1; omega) = old at *
    generalize hki : ((k + 1 : Nat) : Int) = ki at *
    have HKI := hid hki
    clear hki hfr0
    by_cases hu : 16 ≤ u
    · have hu' : (16 : Int) ≤ (u : Int) := by omega
      have hhx : hexD u = hexD (u / 16) ++ [dg (u % 16)] := by rw [hexD, dif_neg (by omega)]
      have han := and15 u (by have := HU.out; have := HRR.out; omega)
      obtain ⟨m, hm⟩ : ∃ m, m = u % 16 := ⟨_, rfl⟩
      have hm16 : m < 16 := by rw [hm]; exact Nat.mod_lt _ (by decide)
      have hdg := digS_at ⟨m, hm16⟩
      have hm36 : m < digS.size := by show _ < 36; omega
      have hgb := getCX digS m hm36
      simp only at hdg
      rw [hdg] at hgb
      rw [← hm] at hhx han
      clear hm
      generalize dg m = d at *
      have HN := hid (show hexD r = hexD (u / 16) ++ d :: D by rw [HH.out, hhx, List.append_assoc]; rfl)
      have HD2 := hid (HD.out.more d)
      have HU2 := hid (show u / 16 ≤ r by have := HU.out; omega)
      have HG2 := hid (show u / 16 < gk by omega)
      unfold digS at hgb
      clear hhx hdg hlen hg
      have HV := hid (fun (z : Int) (hz : z = (d.toNat : Int)) => (congrArg (fun z => DigAt (cur.setIfInBounds k (.int .u8 z)) k (d :: D)) hz).mpr HD2.out)
      go_wp2_with fail
      go_roundg (u / 16)
      case measure => exact HG2.out
      case rel =>
        refine ⟨u / 16, k, _, d :: D, by congr 1, rfl, Nat.le_refl _, HU2, HN, ?_, HBK.out.set_ k _, HB.out.setCell (p := ⟨w.heap.size, k, none⟩) (Nat.le_refl _) _⟩
        exact HV.out _ hgb
    · have hu' : ¬ (16 : Int) ≤ (u : Int) := by omega
      have hu16 : u < 16 := by omega
      have hhx : hexD u = [dg u] := by rw [hexD, dif_pos hu16]
      have hdg := digS_at ⟨u, hu16⟩
      have hm36 : u < digS.size := by show _ < 36; omega
      have hgb := getCX digS u hm36
      simp only at hdg
      rw [hdg] at hgb
      generalize dg u = d at *
      have HN := hid (show hexD r = d :: D by rw [HH.out, hhx]; rfl)
      have HD2 := hid (HD.out.more d)
      unfold digS at hgb
      clear hhx hdg hlen hg
      have hvv : ∀ v : Int, v = (d.toNat : Int) → Blk (wr.setCell ⟨w.heap.size, k, none⟩ (.int .u8 v)) w.heap.size 121 (cur.setIfInBounds k (.int .u8 (d.toNat : Int))) ∧ Below w.heap.size w (wr.setCell ⟨w.heap.size, k, none⟩ (.int .u8 v)) := fun v hv => by
        subst hv
        exact ⟨HBK.out.set_ k _, HB.out.setCell (p := ⟨w.heap.size, k, none⟩) (Nat.le_refl _) _⟩
      have HVV := hid hvv
      clear hvv
      go_upto_region 28 with fail
      obtain ⟨hbk2, hb2⟩ := HVV.out _ hgb
      generalize hw2 : wr.setCell _ _ = w2
      have hbk3 : Blk w2 w.heap.size 121 (cur.setIfInBounds k (.int .u8 (d.toNat : Int))) := by rw [← hw2]; exact hbk2
      have hb3 : Below w.heap.size w w2 := by rw [← hw2]; exact hb2
      have hsl := slice65 w2 w.heap.size k (by omega)
      have hcv := conv_dig hbk3 HD2.out
      have HBF := hid hb3
      have HRS := hid (show hexB r = ⟨(d :: D).toArray⟩ by unfold hexB; rw [HN.out])
      clear hbk2 hb2 hw2 HVV hold hfr hbk3 hb3
      go_wp2_with fail
      go_ret2
      rw [HRS.out]
      exact ⟨rfl, HBF.out⟩
set_option maxHeartbeats 1000000 in
theorem formatInt_any (r : Nat) (hr : r < 16777216) (w : World) (hdb : Db w) :
    Calls Tryz.prog 39 #[.int .i64 r, .int .i64 16] w fun e w' => e = .returned (.string (hexB r)) ∧ Below w.heap.size w w' := by
  have HF := hid (fbits_any r hr w hdb)
  have h0 : ¬ (r : Int) < 0 := by omega
  have hw : IntKind.u64.wrap (r : Int) = (r : Int) := by rw [IntKind.wrap_u64]; omega
  clear hdb hr
  go_enter Tryz.func39, Tryz.ntmps39
  go_wp2_with fail
  refine HF.out.mono ?_
  rintro e w2 ⟨rfl, hb2⟩
  go_wp2_with fail
  go_ret
  exact ⟨rfl, hb2⟩
theorem sformatInt_any (r : Nat) (hr : r < 16777216) (w : World) (hdb : Db w) :
    Calls Tryz.prog 27 #[.int .i64 r, .int .i64 16] w fun e w' => e = .returned (.string (hexB r)) ∧ Below w.heap.size w w' := by
  have HF := hid (formatInt_any r hr w hdb)
  clear hdb hr
  go_enter Tryz.func27, Tryz.ntmps27
  go_wp2_with fail
  refine HF.out.mono ?_
  rintro e w2 ⟨rfl, hb2⟩
  go_wp2_with fail
  go_ret
  exact ⟨rfl, hb2⟩
end Go.Proofs.YtbkjanlkklmleaaGreatDoor
