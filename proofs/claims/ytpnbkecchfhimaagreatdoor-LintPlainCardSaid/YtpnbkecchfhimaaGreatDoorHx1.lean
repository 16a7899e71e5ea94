/- Numbers of sixteen: strconv.FormatInt, scalar.Print, the document's Hex: the plain law and the walks. -/
import Derived.Test.YtpnbkecchfhimaaGreatDoorByt
import Derived.Deep.CutBlock
import Derived.StillTailTactics
import Derived.Laws.Bits64b
import Derived.Test.YtpnbkecchfhimaaGreatDoorHxSh
import Derived.Outline

/- out of Hex -/
section
namespace Go.Proofs.YtpnbkecchfhimaaGreatDoor.Hx
set_option linter.unusedVariables false

/-- Digits of sixteen. -/
def dg (k : Nat) : UInt8 := UInt8.ofNat (if k < 10 then 48 + k else 87 + k)
def hexD (u : Nat) : List UInt8 := if h : u < 16 then [dg u] else hexD (u / 16) ++ [dg (u % 16)]
decreasing_by omega
def hexB (u : Nat) : ByteArray := ⟨(hexD u).toArray⟩
/-- Is a byte a small digit of sixteen, and which. -/
def hxP (c : UInt8) : Bool := (decide (48 ≤ c.toNat) && decide (c.toNat ≤ 57)) || (decide (97 ≤ c.toNat) && decide (c.toNat ≤ 102))
def hxV (c : UInt8) : Int := if c.toNat ≤ 57 then (c.toNat : Int) - 48 else (c.toNat : Int) - 87
theorem dg_hx : ∀ k : Fin 16, hxP (dg k.val) = true ∧ hxV (dg k.val) = k.val := by decide
theorem hexD_hx : ∀ (u : Nat), ∀ b ∈ hexD u, hxP b = true := by
  intro u
  induction u using Nat.strongRecOn with
  | _ u ih =>
    intro b hb
    rw [hexD] at hb
    split at hb
    · rename_i h
      rw [List.mem_singleton.1 hb]
      exact (dg_hx ⟨u, h⟩).1
    · rcases List.mem_append.1 hb with h | h
      · exact ih (u / 16) (by omega) b h
      · rw [List.mem_singleton.1 h]
        exact (dg_hx ⟨u % 16, Nat.mod_lt _ (by decide)⟩).1
theorem hexD_sum : ∀ (u : Nat), (hexD u).foldl (fun (n : Int) b => 16 * n + hxV b) 0 = u := by
  intro u
  induction u using Nat.strongRecOn with
  | _ u ih =>
    rw [hexD]
    split
    · rename_i h
      show 16 * 0 + hxV _ = _
      rw [(dg_hx ⟨u, h⟩).2]
      show 16 * 0 + (u : Int) = _
      omega
    · rw [List.foldl_append, ih (u / 16) (by omega)]
      show 16 * _ + hxV _ = _
      rw [(dg_hx ⟨u % 16, Nat.mod_lt _ (by decide)⟩).2]
      show 16 * ((u / 16 : Nat) : Int) + ((u % 16 : Nat) : Int) = _
      omega
theorem hexD_len : ∀ (k u : Nat), 1 ≤ k → u < 16 ^ k → (hexD u).length ≤ k := by
  intro k
  induction k with
  | zero => intro u h; omega
  | succ k ih =>
    intro u _ hu
    rw [hexD]
    split
    · simp
    · rename_i h
      rw [List.length_append, List.length_singleton]
      have hk : 1 ≤ k := by
        rcases Nat.eq_zero_or_pos k with h0 | h0
        · subst h0; exact absurd hu h
        · exact h0
      have := ih (u / 16) hk (by rw [Nat.pow_succ] at hu; omega)
      omega
theorem hexD_pos (u : Nat) : 1 ≤ (hexD u).length := by
  rw [hexD]
  split <;> simp
theorem hexB_size (u : Nat) : (hexB u).size = (hexD u).length := by simp [hexB, ByteArray.size]
def mkB (l : List UInt8) : ByteArray := ⟨l.toArray⟩
theorem mkB_append (l k : List UInt8) : mkB l ++ mkB k = mkB (l ++ k) := by
  apply ByteArray.ext
  simp [mkB, ByteArray.data_append]
theorem mkB_size (l : List UInt8) : (mkB l).size = l.length := by simp [mkB, ByteArray.size]
theorem mkB_inj {l k : List UInt8} (h : mkB l = mkB k) : l = k := by
  have := congrArg (fun b : ByteArray => b.data.toList) h
  simpa [mkB] using this
/-- A number's text of at least four digits. -/
def hex4D (u : Nat) : List UInt8 := List.replicate (4 - (hexD u).length) 48 ++ hexD u
theorem hex4D_hx (u : Nat) : ∀ b ∈ hex4D u, hxP b = true := by
  intro b hb
  rcases List.mem_append.1 hb with h | h
  · rw [(List.mem_replicate.1 h).2]; decide
  · exact hexD_hx u b h
theorem hex4D_sum (u : Nat) : (hex4D u).foldl (fun (n : Int) b => 16 * n + hxV b) 0 = u := by
  unfold hex4D
  rw [List.foldl_append]
  have : ∀ k, (List.replicate k (48 : UInt8)).foldl (fun (n : Int) b => 16 * n + hxV b) 0 = 0 := by
    intro k
    induction k with
    | zero => rfl
    | succ k ih =>
      rw [List.replicate_succ, List.foldl_cons]
      exact ih
  rw [this]
  exact hexD_sum u
theorem hex4D_pos (u : Nat) : 4 ≤ (hex4D u).length := by
  unfold hex4D
  rw [List.length_append, List.length_replicate]
  omega
theorem hex4D_len (u : Nat) (h : u < 16777216) : (hex4D u).length ≤ 6 := by
  have := hexD_len 6 u (by decide) (by show _ < 16777216; omega)
  unfold hex4D
  rw [List.length_append, List.length_replicate]
  omega
end Go.Proofs.YtpnbkecchfhimaaGreatDoor.Hx
end

/- out of HxQ -/
section
namespace Go.Proofs.YtpnbkecchfhimaaGreatDoor.Hx
open Go.RowKit
open Go.Shelf
open Go.Lib (hid)
set_option linter.unusedVariables false
set_option maxRecDepth 100000

theorem ext_allX (s : ByteArray) : s.extract 0 s.size = s := by
  apply ByteArray.ext
  rw [ByteArray.data_extract]
  exact Array.extract_size
theorem getCX (s : ByteArray) (i : Nat) (h : i < s.size) : ((s[i]'h).toNat : Int) = byt s i := by
  have := getB s i h
  have h0 := (byt_nonneg s i).1
  omega
theorem conv_headX {W : World} {b off : Nat} {s : ByteArray} (hz : Lib.Bytes W b off s) (k c : Nat) (h2 : k ≤ s.size) : (convert 22 9 (.slice (some ⟨b, off, none⟩) k c)).run Tryz.prog W = .ok (.string (s.extract 0 k)) W := by
  have := Lib.run_convert_window (P := Tryz.prog) W 22 5 9 Tryz.underlying22 Tryz.underlying5 Tryz.underlying9 b off s hz 0 k c (by omega)
  rw [Nat.zero_add, Nat.add_zero] at this
  exact this
/-- The table's cell that sixteen reads. -/
def Db (w : World) : Prop := w.cell? ⟨8, 15, none⟩ = some (.int .u8 4)
theorem Db.below {w w' : World} {B : Nat} (h : Db w) (hb : Below B w w') (hB : w.heap.size ≤ B) : Db w' := by
  have := World.block_lt_of_cell? _ _ h
  exact (hb.cell (p := ⟨8, 15, none⟩) (by show _ < B; omega)).trans h
theorem tz64_any (w : World) (hc : Db w) : Calls Tryz.prog 221 #[.int .u64 16] w fun e w' => e = .returned (.int .i64 4) ∧ w' = w := by
  have hc : w.cell? ⟨8, 15, none⟩ = some (.int .u8 4) := hc
  have e1 : IntKind.u64.wrap (-16) = 18446744073709551600 := by decide
  have e2 : bits BinOp.and IntKind.u64 16 18446744073709551600 = 16 := by decide
  have e3 : IntKind.u64.wrap 4573921408821661840 = 4573921408821661840 := by decide
  go_enter Tryz.func221, Tryz.ntmps221
  go_wp2_with fail
  go_ret
  exact ⟨rfl, rfl⟩
theorem tz_any (w : World) (hc : Db w) : Calls Tryz.prog 198 #[.int .u64 16] w fun e w' => e = .returned (.int .i64 4) ∧ w' = w := by
  have HT := hid (tz64_any w hc)
  clear hc
  go_enter Tryz.func198, Tryz.ntmps198
  go_wp2_with (go_at_call 221; refine HT.out.mono ?_; rintro e w2 ⟨rfl, hw2⟩; obtain rfl : w = w2 := hw2.symm)
  go_ret
  exact ⟨rfl, rfl⟩
theorem pow2_any (w : World) : Calls Tryz.prog 197 #[.int .i64 16] w fun e w' => e = .returned (.bool true) ∧ w' = w := by
  have e1 : bits BinOp.and IntKind.i64 16 15 = 0 := by decide
  go_enter Tryz.func197, Tryz.ntmps197
  go_wp2_with fail
  go_ret
  exact ⟨rfl, rfl⟩
noncomputable def zero65 : Array Value := ((Tryz.prog.info? 284).bind (·.zero)).get!.cells
theorem zero65_run (w : World) : (Instr.alloc 284 true (.tuple #[])).run Tryz.prog w = .ok (.pointer (some ⟨w.heap.size, 0, none⟩)) (w.alloc (.cells zero65 284)) := by kernel_rfl
theorem zero65_size : zero65.size = 65 := by kernel_rfl
def digS : ByteArray := ⟨#[48, 49, 50, 51, 52, 53, 54, 55, 56, 57, 97, 98, 99, 100, 101, 102, 103, 104, 105, 106, 107, 108, 109, 110, 111, 112, 113, 114, 115, 116, 117, 118, 119, 120, 121, 122]⟩
theorem digS_at : ∀ k : Fin 16, byt digS k.val = ((dg k.val).toNat : Int) := by decide
theorem and15 (u : Nat) (h : u < 16777216) : bits .and .u64 (u : Int) 15 = ((u % 16 : Nat) : Int) := by
  have := bits_mask .u64 63 (by decide) (fun n h0 h1 => by rw [IntKind.wrap_u64]; omega) 4 (by decide) (u : Int) (by omega) (by omega)
  rw [show ((2 : Int) ^ 4 - 1) = 15 from rfl, show ((2 : Int) ^ 4) = 16 from rfl] at this
  rw [this]
  omega
def DigAt (cur : Array Value) (i : Nat) (D : List UInt8) : Prop := cur.size = 65 ∧ i + D.length = 65 ∧ ∀ j, j < D.length → cur[i + j]? = some (.int .u8 ((D.getD j 0).toNat : Int))
theorem DigAt.more {cur : Array Value} {i : Nat} {D : List UInt8} (h : DigAt cur (i + 1) D) (d : UInt8) : DigAt (cur.setIfInBounds i (.int .u8 (d.toNat : Int))) i (d :: D) := by
  obtain ⟨h1, h2, h3⟩ := h
  refine ⟨by simp [h1], by rw [List.length_cons]; omega, fun j hj => ?_⟩
  rw [List.length_cons] at hj
  cases j with
  | zero =>
    rw [Nat.add_zero, Array.getElem?_setIfInBounds_self_of_lt (by omega)]
    rfl
  | succ j =>
    rw [Array.getElem?_setIfInBounds_ne (by omega)]
    have := h3 j (by omega)
    rw [show i + 1 + j = i + (j + 1) by omega] at this
    rw [this]
    rfl

theorem slice65 (W : World) (g k : Nat) (h : k < 65) : (Instr.sliceAt 284 (.pointer (some ⟨g, 0, none⟩)) (some (.int .i64 k)) none none).run Tryz.prog W = .ok (.slice (some ⟨g, k, none⟩) (65 - k) (65 - k)) W := by
  have hal : Tryz.prog.arrayLen 284 = 65 := by simp [Program.arrayLen, Tryz.underlying284]
  rw [run_sliceAt_array_l W 284 ⟨g, 0, none⟩ (by simp [Program.arrayLen, Program.elem, Tryz.underlying284]) .i64 k (by omega) (by rw [hal]; omega)]
  have hs : (sizeOf (Tryz.prog.elem 284)).run Tryz.prog W = .ok 1 W := by go_simp
  rw [hs, hal]
  have hk : ¬ 65 = k := by omega
  simp [Result.andThen, slicedAt, hk, Addr.add]
  omega
theorem conv_dig {W : World} {g k : Nat} {cur : Array Value} {D : List UInt8} {t : TypeId} (hb : Blk W g t cur) (hd : DigAt cur k D) : (convert 22 9 (.slice (some ⟨g, k, none⟩) (65 - k) (65 - k))).run Tryz.prog W = .ok (.string ⟨D.toArray⟩) W := by
  obtain ⟨h1, h2, h3⟩ := hd
  have hz : Lib.Bytes W g k ⟨D.toArray⟩ := by
    apply bytes_of_byt
    intro i hi
    have hi' : i < D.length := by simpa [ByteArray.size] using hi
    rw [hb.cell, h3 i hi']
    congr 2
    unfold byt
    simp [Array.getD_eq_getD_getElem?, List.getD_eq_getElem?_getD, hi']
  have hs : (⟨D.toArray⟩ : ByteArray).size = 65 - k := by simp [ByteArray.size]; omega
  have := conv_headX hz (65 - k) (65 - k) (by omega)
  rw [this]
  congr 2
  rw [← hs]
  exact ext_allX _
set_option maxRecDepth 100000 in
set_option maxHeartbeats 8000000 in
theorem fbits_any (r : Nat) (hr : r < 16777216) (w : World) (hdb : Db w) :
    Calls Tryz.prog 155 #[.slice none 0 0, .int .u64 r, .int .i64 16, .bool false, .bool false] w fun e w' => e = .returned (.tuple #[.slice none 0 0, .string (hexB r)]) ∧ Below w.heap.size w w' := by
  have hdl := World.block_lt_of_cell? _ _ hdb
  have hb1 := (Below.refl w.heap.size w).alloc (Nat.le_refl _) (.cells zero65 284)
  have hr1 := Blk.new w 284 zero65
  have HDB := hid (fun (W : World) (hW : Below w.heap.size w W) => hdb.below hW (Nat.le_refl _))
  have HB1 := hid hb1
  have HR1 := hid hr1
  clear hb1 hr1 hdb
  go_enter Tryz.func155, Tryz.ntmps155
  go_upto_region 4 with (first
    | (go_at_call 197; refine (pow2_any _).mono ?_; rintro e w2 ⟨rfl, hw2⟩; obtain rfl := hw2)
    | (with_reducible refine wpList_allocZ 12 284 _ zero65 284 zero65_run ?_))
  generalize w.alloc (.cells zero65 284) = w1 at *
  have HT1 := hid (tz_any w1 (HDB.out w1 HB1.out))
  have HP1 := hid (pow2_any w1)
  go_wp2_with (first
    | (go_at_call 197; refine HP1.out.mono ?_; rintro e w2 ⟨rfl, hw2⟩; obtain rfl : w1 = w2 := hw2.symm)
    | (go_at_call 198; refine HT1.out.mono ?_; rintro e w2 ⟨rfl, hw2⟩; obtain rfl : w1 = w2 := hw2.symm))
  clear HT1 HP1 HDB
  have hrl : (hexD r).length ≤ 6 := hexD_len 6 r (by decide) (by show _ < 16777216; omega)
  have HRL := hid hrl
  have HRR := hid hr
  clear hrl hr
  go_loopg [1, 13] r (fun kx s1 s13 wr => ∃ (u i : Nat) (cur : Array Value) (D : List UInt8), s1 = .int .u64 u ∧ s13 = .int .i64 i ∧ u ≤ kx ∧ Hid (u ≤ r) ∧ Hid (hexD r = hexD u ++ D) ∧ Hid (DigAt cur i D) ∧ Hid (Blk wr w.heap.size 284 cur) ∧ Hid (Below w.heap.size w wr))
  case atStart => exact ⟨r, 65, zero65, [], rfl, rfl, Nat.le_refl _, Nat.le_refl _, (List.append_nil _).symm, ⟨zero65_size, rfl, fun j hj => absurd hj (Nat.not_lt_zero _)⟩, HR1.out, HB1.out⟩
  case round =>
    obtain ⟨u, i, cur, D, rfl, rfl, hg, HU, HH, HD, HBK, HB⟩ := hrel
    have hlen : D.length ≤ 5 ∧ i + D.length = 65 := by
      have h1 := congrArg List.length HH.out
      rw [List.length_append] at h1
      have := HRL.out
      have := hexD_pos u
      exact ⟨by omega, HD.out.2.1⟩
    obtain ⟨k, rfl⟩ : ∃ k, i = k + 1 := ⟨i - 1, by omega⟩
    have hk1 : ((k + 1 : Nat) : Int) - 1 = (k : Int) := by omega
    have hk65 : (k : Int) < 65 := by omega
    have hold : wr.cell? ⟨w.heap.size, k, none⟩ = some (cur[k]'(by have := HD.out.1; omega)) := by
      rw [HBK.out.cell, Array.getElem?_eq_getElem]
    have hfr := HBK.out.frozen k
    have hfr0 := HBK.out.frozen
    generalize cur[k]'(by have := HD.out.1; omega) = old at *
    generalize hki : ((k + 1 : Nat) : Int) = ki at *
    have HKI := hid hki
    clear hki hfr0
    by_cases hu : 16 ≤ u
    · have hu' : (16 : Int) ≤ (u : Int) := by omega
      have hhx : hexD u = hexD (u / 16) ++ [dg (u % 16)] := by rw [hexD, dif_neg (by omega)]
      have han := and15 u (by have := HU.out; have := HRR.out; omega)
      obtain ⟨m, hm⟩ : ∃ m, m = u % 16 := ⟨_, rfl⟩
      have hm16 : m < 16 := by rw [hm]; exact Nat.mod_lt _ (by decide)
      have hdg := digS_at ⟨m, hm16⟩
      have hm36 : m < digS.size := by show _ < 36; omega
      have hgb := getCX digS m hm36
      simp only at hdg
      rw [hdg] at hgb
      rw [← hm] at hhx han
      clear hm
      generalize dg m = d at *
      have HN := hid (show hexD r = hexD (u / 16) ++ d :: D by rw [HH.out, hhx, List.append_assoc]; rfl)
      have HD2 := hid (HD.out.more d)
      have HU2 := hid (show u / 16 ≤ r by have := HU.out; omega)
      have HG2 := hid (show u / 16 < gk by omega)
      unfold digS at hgb
      clear hhx hdg hlen hg
      have HV := hid (fun (z : Int) (hz : z = (d.toNat : Int)) => (congrArg (fun z => DigAt (cur.setIfInBounds k (.int .u8 z)) k (d :: D)) hz).mpr HD2.out)
      go_wp2_with fail
      go_roundg (u / 16)
      case measure => exact HG2.out
      case rel =>
        refine ⟨u / 16, k, _, d :: D, by congr 1, rfl, Nat.le_refl _, HU2, HN, ?_, HBK.out.set_ k _, HB.out.setCell (p := ⟨w.heap.size, k, none⟩) (Nat.le_refl _) _⟩
        exact HV.out _ hgb
    · have hu' : ¬ (16 : Int) ≤ (u : Int) := by omega
      have hu16 : u < 16 := by omega
      have hhx : hexD u = [dg u] := by rw [hexD, dif_pos hu16]
      have hdg := digS_at ⟨u, hu16⟩
      have hm36 : u < digS.size := by show _ < 36; omega
      have hgb := getCX digS u hm36
      simp only at hdg
      rw [hdg] at hgb
      generalize dg u = d at *
      have HN := hid (show hexD r = d :: D by rw [HH.out, hhx]; rfl)
      have HD2 := hid (HD.out.more d)
      unfold digS at hgb
      clear hhx hdg hlen hg
      have hvv : ∀ v : Int, v = (d.toNat : Int) → Blk (wr.setCell ⟨w.heap.size, k, none⟩ (.int .u8 v)) w.heap.size 284 (cur.setIfInBounds k (.int .u8 (d.toNat : Int))) ∧ Below w.heap.size w (wr.setCell ⟨w.heap.size, k, none⟩ (.int .u8 v)) := fun v hv => by
        subst hv
        exact ⟨HBK.out.set_ k _, HB.out.setCell (p := ⟨w.heap.size, k, none⟩) (Nat.le_refl _) _⟩
      have HVV := hid hvv
      clear hvv
      go_upto_region 28 with fail
      obtain ⟨hbk2, hb2⟩ := HVV.out _ hgb
      generalize hw2 : wr.setCell _ _ = w2
      have hbk3 : Blk w2 w.heap.size 284 (cur.setIfInBounds k (.int .u8 (d.toNat : Int))) := by rw [← hw2]; exact hbk2
      have hb3 : Below w.heap.size w w2 := by rw [← hw2]; exact hb2
      have hsl := slice65 w2 w.heap.size k (by omega)
      have hcv := conv_dig hbk3 HD2.out
      have HBF := hid hb3
      have HRS := hid (show hexB r = ⟨(d :: D).toArray⟩ by unfold hexB; rw [HN.out])
      clear hbk2 hb2 hw2 HVV hold hfr hbk3 hb3
      go_wp2_with fail
      go_ret2
      rw [HRS.out]
      exact ⟨rfl, HBF.out⟩
set_option maxHeartbeats 1000000 in
theorem formatInt_any (r : Nat) (hr : r < 16777216) (w : World) (hdb : Db w) :
    Calls Tryz.prog 112 #[.int .i64 r, .int .i64 16] w fun e w' => e = .returned (.string (hexB r)) ∧ Below w.heap.size w w' := by
  have HF := hid (fbits_any r hr w hdb)
  have h0 : ¬ (r : Int) < 0 := by omega
  have hw : IntKind.u64.wrap (r : Int) = (r : Int) := by rw [IntKind.wrap_u64]; omega
  clear hdb hr
  go_enter Tryz.func112, Tryz.ntmps112
  go_wp2_with fail
  refine HF.out.mono ?_
  rintro e w2 ⟨rfl, hb2⟩
  go_wp2_with fail
  go_ret
  exact ⟨rfl, hb2⟩
theorem sformatInt_any (r : Nat) (hr : r < 16777216) (w : World) (hdb : Db w) :
    Calls Tryz.prog 84 #[.int .i64 r, .int .i64 16] w fun e w' => e = .returned (.string (hexB r)) ∧ Below w.heap.size w w' := by
  have HF := hid (formatInt_any r hr w hdb)
  clear hdb hr
  go_enter Tryz.func84, Tryz.ntmps84
  go_wp2_with fail
  refine HF.out.mono ?_
  rintro e w2 ⟨rfl, hb2⟩
  go_wp2_with fail
  go_ret
  exact ⟨rfl, hb2⟩
end Go.Proofs.YtpnbkecchfhimaaGreatDoor.Hx
end

/- out of HxN -/
section
namespace Go.Proofs.YtpnbkecchfhimaaGreatDoor.Hx
open Go.RowKit
open Go.Shelf
open Go.Lib (hid)
set_option linter.unusedVariables false
set_option maxRecDepth 100000

theorem and15N (u : Nat) (h : u < 4294967296) : bits .and .u64 (u : Int) 15 = ((u % 16 : Nat) : Int) := by
  have := bits_mask .u64 63 (by decide) (fun n h0 h1 => by rw [IntKind.wrap_u64]; omega) 4 (by decide) (u : Int) (by omega) (by omega)
  rw [show ((2 : Int) ^ 4 - 1) = 15 from rfl, show ((2 : Int) ^ 4) = 16 from rfl] at this
  rw [this]
  omega
set_option maxRecDepth 100000 in
set_option maxHeartbeats 8000000 in
theorem fbitsP_any (r : Nat) (hr : r < 4294967296) (w : World) (hdb : Db w) :
    Calls Tryz.prog 155 #[.slice none 0 0, .int .u64 r, .int .i64 16, .bool false, .bool false] w fun e w' => e = .returned (.tuple #[.slice none 0 0, .string (hexB r)]) ∧ Below w.heap.size w w' := by
  have hdl := World.block_lt_of_cell? _ _ hdb
  have hb1 := (Below.refl w.heap.size w).alloc (Nat.le_refl _) (.cells zero65 284)
  have hr1 := Blk.new w 284 zero65
  have HDB := hid (fun (W : World) (hW : Below w.heap.size w W) => hdb.below hW (Nat.le_refl _))
  have HB1 := hid hb1
  have HR1 := hid hr1
  clear hb1 hr1 hdb
  go_enter Tryz.func155, Tryz.ntmps155
  go_upto_region 4 with (first
    | (go_at_call 197; refine (pow2_any _).mono ?_; rintro e w2 ⟨rfl, hw2⟩; obtain rfl := hw2)
    | (with_reducible refine wpList_allocZ 12 284 _ zero65 284 zero65_run ?_))
  generalize w.alloc (.cells zero65 284) = w1 at *
  have HT1 := hid (tz_any w1 (HDB.out w1 HB1.out))
  have HP1 := hid (pow2_any w1)
  go_wp2_with (first
    | (go_at_call 197; refine HP1.out.mono ?_; rintro e w2 ⟨rfl, hw2⟩; obtain rfl : w1 = w2 := hw2.symm)
    | (go_at_call 198; refine HT1.out.mono ?_; rintro e w2 ⟨rfl, hw2⟩; obtain rfl : w1 = w2 := hw2.symm))
  clear HT1 HP1 HDB
  have hrl : (hexD r).length ≤ 8 := hexD_len 8 r (by decide) (by show _ < 4294967296; omega)
  have HRL := hid hrl
  have HRR := hid hr
  clear hrl hr
  go_loopg [1, 13] r (fun kx s1 s13 wr => ∃ (u i : Nat) (cur : Array Value) (D : List UInt8), s1 = .int .u64 u ∧ s13 = .int .i64 i ∧ u ≤ kx ∧ Hid (u ≤ r) ∧ Hid (hexD r = hexD u ++ D) ∧ Hid (DigAt cur i D) ∧ Hid (Blk wr w.heap.size 284 cur) ∧ Hid (Below w.heap.size w wr))
  case atStart => exact ⟨r, 65, zero65, [], rfl, rfl, Nat.le_refl _, Nat.le_refl _, (List.append_nil _).symm, ⟨zero65_size, rfl, fun j hj => absurd hj (Nat.not_lt_zero _)⟩, HR1.out, HB1.out⟩
  case round =>
    obtain ⟨u, i, cur, D, rfl, rfl, hg, HU, HH, HD, HBK, HB⟩ := hrel
    have hlen : D.length ≤ 7 ∧ i + D.length = 65 := by
      have h1 := congrArg List.length HH.out
      rw [List.length_append] at h1
      have := HRL.out
      have := hexD_pos u
      exact ⟨by omega, HD.out.2.1⟩
    obtain ⟨k, rfl⟩ : ∃ k, i = k + 1 := ⟨i - 1, by omega⟩
    have hk1 : ((k + 1 : Nat) : Int) - 1 = (k : Int) := by omega
    have hk65 : (k : Int) < 65 := by omega
    have hold : wr.cell? ⟨w.heap.size, k, none⟩ = some (cur[k]'(by have := HD.out.1; omega)) := by
      rw [HBK.out.cell, Array.getElem?_eq_getElem]
    have hfr := HBK.out.frozen k
    have hfr0 := HBK.out.frozen
    generalize cur[k]'(by have := HD.out.1; omega) = old at *
    generalize hki : ((k + 1 : Nat) : Int) = ki at *
    have HKI := hid hki
    clear hki hfr0
    by_cases hu : 16 ≤ u
    · have hu' : (16 : Int) ≤ (u : Int) := by omega
      have hhx : hexD u = hexD (u / 16) ++ [dg (u % 16)] := by rw [hexD, dif_neg (by omega)]
      have han := and15N u (by have := HU.out; have := HRR.out; omega)
      obtain ⟨m, hm⟩ : ∃ m, m = u % 16 := ⟨_, rfl⟩
      have hm16 : m < 16 := by rw [hm]; exact Nat.mod_lt _ (by decide)
      have hdg := digS_at ⟨m, hm16⟩
      have hm36 : m < digS.size := by show _ < 36; omega
      have hgb := getCX digS m hm36
      simp only at hdg
      rw [hdg] at hgb
      rw [← hm] at hhx han
      clear hm
      generalize dg m = d at *
      have HN := hid (show hexD r = hexD (u / 16) ++ d :: D by rw [HH.out, hhx, List.append_assoc]; rfl)
      have HD2 := hid (HD.out.more d)
      have HU2 := hid (show u / 16 ≤ r by have := HU.out; omega)
      have HG2 := hid (show u / 16 < gk by omega)
      unfold digS at hgb
      clear hhx hdg hlen hg
      have HV := hid (fun (z : Int) (hz : z = (d.toNat : Int)) => (congrArg (fun z => DigAt (cur.setIfInBounds k (.int .u8 z)) k (d :: D)) hz).mpr HD2.out)
      go_wp2_with fail
      go_roundg (u / 16)
      case measure => exact HG2.out
      case rel =>
        refine ⟨u / 16, k, _, d :: D, by congr 1, rfl, Nat.le_refl _, HU2, HN, ?_, HBK.out.set_ k _, HB.out.setCell (p := ⟨w.heap.size, k, none⟩) (Nat.le_refl _) _⟩
        exact HV.out _ hgb
    · have hu' : ¬ (16 : Int) ≤ (u : Int) := by omega
      have hu16 : u < 16 := by omega
      have hhx : hexD u = [dg u] := by rw [hexD, dif_pos hu16]
      have hdg := digS_at ⟨u, hu16⟩
      have hm36 : u < digS.size := by show _ < 36; omega
      have hgb := getCX digS u hm36
      simp only at hdg
      rw [hdg] at hgb
      generalize dg u = d at *
      have HN := hid (show hexD r = d :: D by rw [HH.out, hhx]; rfl)
      have HD2 := hid (HD.out.more d)
      unfold digS at hgb
      clear hhx hdg hlen hg
      have hvv : ∀ v : Int, v = (d.toNat : Int) → Blk (wr.setCell ⟨w.heap.size, k, none⟩ (.int .u8 v)) w.heap.size 284 (cur.setIfInBounds k (.int .u8 (d.toNat : Int))) ∧ Below w.heap.size w (wr.setCell ⟨w.heap.size, k, none⟩ (.int .u8 v)) := fun v hv => by
        subst hv
        exact ⟨HBK.out.set_ k _, HB.out.setCell (p := ⟨w.heap.size, k, none⟩) (Nat.le_refl _) _⟩
      have HVV := hid hvv
      clear hvv
      go_upto_region 28 with fail
      obtain ⟨hbk2, hb2⟩ := HVV.out _ hgb
      generalize hw2 : wr.setCell _ _ = w2
      have hbk3 : Blk w2 w.heap.size 284 (cur.setIfInBounds k (.int .u8 (d.toNat : Int))) := by rw [← hw2]; exact hbk2
      have hb3 : Below w.heap.size w w2 := by rw [← hw2]; exact hb2
      have hsl := slice65 w2 w.heap.size k (by omega)
      have hcv := conv_dig hbk3 HD2.out
      have HBF := hid hb3
      have HRS := hid (show hexB r = ⟨(d :: D).toArray⟩ by unfold hexB; rw [HN.out])
      clear hbk2 hb2 hw2 HVV hold hfr hbk3 hb3
      go_wp2_with fail
      go_ret2
      rw [HRS.out]
      exact ⟨rfl, HBF.out⟩
set_option maxRecDepth 100000 in
set_option maxHeartbeats 8000000 in
theorem fbitsM_any (r : Nat) (hr : r < 4294967296) (z : Int) (hz : IntKind.u64.wrap (-z) = (r : Int)) (w : World) (hdb : Db w) :
    Calls Tryz.prog 155 #[.slice none 0 0, .int .u64 z, .int .i64 16, .bool true, .bool false] w fun e w' => e = .returned (.tuple #[.slice none 0 0, .string (mkB (45 :: hexD r))]) ∧ Below w.heap.size w w' := by
  have hdl := World.block_lt_of_cell? _ _ hdb
  have hb1 := (Below.refl w.heap.size w).alloc (Nat.le_refl _) (.cells zero65 284)
  have hr1 := Blk.new w 284 zero65
  have HDB := hid (fun (W : World) (hW : Below w.heap.size w W) => hdb.below hW (Nat.le_refl _))
  have HB1 := hid hb1
  have HR1 := hid hr1
  clear hb1 hr1 hdb
  go_enter Tryz.func155, Tryz.ntmps155
  go_upto_region 4 with (first
    | (go_at_call 197; refine (pow2_any _).mono ?_; rintro e w2 ⟨rfl, hw2⟩; obtain rfl := hw2)
    | (with_reducible refine wpList_allocZ 12 284 _ zero65 284 zero65_run ?_))
  generalize w.alloc (.cells zero65 284) = w1 at *
  have HT1 := hid (tz_any w1 (HDB.out w1 HB1.out))
  have HP1 := hid (pow2_any w1)
  go_wp2_with (first
    | (go_at_call 197; refine HP1.out.mono ?_; rintro e w2 ⟨rfl, hw2⟩; obtain rfl : w1 = w2 := hw2.symm)
    | (go_at_call 198; refine HT1.out.mono ?_; rintro e w2 ⟨rfl, hw2⟩; obtain rfl : w1 = w2 := hw2.symm))
  clear HT1 HP1 HDB
  have hrl : (hexD r).length ≤ 8 := hexD_len 8 r (by decide) (by show _ < 4294967296; omega)
  have HRL := hid hrl
  have HRR := hid hr
  clear hrl hr
  go_loopg [1, 13] r (fun kx s1 s13 wr => ∃ (u i : Nat) (cur : Array Value) (D : List UInt8), s1 = .int .u64 u ∧ s13 = .int .i64 i ∧ u ≤ kx ∧ Hid (u ≤ r) ∧ Hid (hexD r = hexD u ++ D) ∧ Hid (DigAt cur i D) ∧ Hid (Blk wr w.heap.size 284 cur) ∧ Hid (Below w.heap.size w wr))
  case atStart => exact ⟨r, 65, zero65, [], rfl, rfl, Nat.le_refl _, Nat.le_refl _, (List.append_nil _).symm, ⟨zero65_size, rfl, fun j hj => absurd hj (Nat.not_lt_zero _)⟩, HR1.out, HB1.out⟩
  case round =>
    obtain ⟨u, i, cur, D, rfl, rfl, hg, HU, HH, HD, HBK, HB⟩ := hrel
    have hlen : D.length ≤ 7 ∧ i + D.length = 65 := by
      have h1 := congrArg List.length HH.out
      rw [List.length_append] at h1
      have := HRL.out
      have := hexD_pos u
      exact ⟨by omega, HD.out.2.1⟩
    obtain ⟨k, rfl⟩ : ∃ k, i = k + 1 := ⟨i - 1, by omega⟩
    have hk1 : ((k + 1 : Nat) : Int) - 1 = (k : Int) := by omega
    have hk65 : (k : Int) < 65 := by omega
    have hold : wr.cell? ⟨w.heap.size, k, none⟩ = some (cur[k]'(by have := HD.out.1; omega)) := by
      rw [HBK.out.cell, Array.getElem?_eq_getElem]
    have hfr := HBK.out.frozen k
    have hfr0 := HBK.out.frozen
    generalize cur[k]'(by have := HD.out.1; omega) = old at *
    generalize hki : ((k + 1 : Nat) : Int) = ki at *
    have HKI := hid hki
    clear hki hfr0
    by_cases hu : 16 ≤ u
    · have hu' : (16 : Int) ≤ (u : Int) := by omega
      have hhx : hexD u = hexD (u / 16) ++ [dg (u % 16)] := by rw [hexD, dif_neg (by omega)]
      have han := and15N u (by have := HU.out; have := HRR.out; omega)
      obtain ⟨m, hm⟩ : ∃ m, m = u % 16 := ⟨_, rfl⟩
      have hm16 : m < 16 := by rw [hm]; exact Nat.mod_lt _ (by decide)
      have hdg := digS_at ⟨m, hm16⟩
      have hm36 : m < digS.size := by show _ < 36; omega
      have hgb := getCX digS m hm36
      simp only at hdg
      rw [hdg] at hgb
      rw [← hm] at hhx han
      clear hm
      generalize dg m = d at *
      have HN := hid (show hexD r = hexD (u / 16) ++ d :: D by rw [HH.out, hhx, List.append_assoc]; rfl)
      have HD2 := hid (HD.out.more d)
      have HU2 := hid (show u / 16 ≤ r by have := HU.out; omega)
      have HG2 := hid (show u / 16 < gk by omega)
      unfold digS at hgb
      clear hhx hdg hlen hg
      have HV := hid (fun (z : Int) (hz : z = (d.toNat : Int)) => (congrArg (fun z => DigAt (cur.setIfInBounds k (.int .u8 z)) k (d :: D)) hz).mpr HD2.out)
      go_wp2_with fail
      go_roundg (u / 16)
      case measure => exact HG2.out
      case rel =>
        refine ⟨u / 16, k, _, d :: D, by congr 1, rfl, Nat.le_refl _, HU2, HN, ?_, HBK.out.set_ k _, HB.out.setCell (p := ⟨w.heap.size, k, none⟩) (Nat.le_refl _) _⟩
        exact HV.out _ hgb
    · have hu' : ¬ (16 : Int) ≤ (u : Int) := by omega
      have hu16 : u < 16 := by omega
      have hhx : hexD u = [dg u] := by rw [hexD, dif_pos hu16]
      have hdg := digS_at ⟨u, hu16⟩
      have hm36 : u < digS.size := by show _ < 36; omega
      have hgb := getCX digS u hm36
      simp only at hdg
      rw [hdg] at hgb
      generalize dg u = d at *
      have HN := hid (show hexD r = d :: D by rw [HH.out, hhx]; rfl)
      obtain ⟨k1, hk1e⟩ : ∃ k1, k = k1 + 1 := ⟨k - 1, by omega⟩
      have hk2 : (k : Int) - 1 = (k1 : Int) := by omega
      have hk65b : (k1 : Int) < 65 := by omega
      have hk65n : k1 < 65 := by omega
      have HD1 := hid (HD.out.more d)
      have hd1 := HD1.out
      rw [hk1e] at hd1
      have hd2 := DigAt.more hd1 45
      rw [← hk1e] at hd2
      have HD2 := hid hd2
      unfold digS at hgb
      clear hhx hdg hlen hg hd1 hd2 hk1e
      have hvv : ∀ v : Int, v = (d.toNat : Int) → Blk (wr.setCell ⟨w.heap.size, k, none⟩ (.int .u8 v)) w.heap.size 284 (cur.setIfInBounds k (.int .u8 (d.toNat : Int))) ∧ Below w.heap.size w (wr.setCell ⟨w.heap.size, k, none⟩ (.int .u8 v)) := fun v hv => by
        subst hv
        exact ⟨HBK.out.set_ k _, HB.out.setCell (p := ⟨w.heap.size, k, none⟩) (Nat.le_refl _) _⟩
      have HVV := hid hvv
      have hszc := HD1.out.1
      generalize hcur : cur.setIfInBounds k (.int .u8 (d.toNat : Int)) = cur1 at *
      clear hvv hcur
      go_upto_region 26 with fail
      obtain ⟨hbk2, hb2⟩ := HVV.out _ hgb
      generalize hw2 : wr.setCell _ _ = w2
      have hbk3 : Blk w2 w.heap.size 284 cur1 := by rw [← hw2]; exact hbk2
      have hb3 : Below w.heap.size w w2 := by rw [← hw2]; exact hb2
      clear hbk2 hb2 hw2 HVV
      have hold2 : w2.cell? ⟨w.heap.size, k1, none⟩ = some (cur1[k1]'(by omega)) := by
        rw [hbk3.cell, Array.getElem?_eq_getElem]
      have hfr2 := hbk3.frozen k1
      have hbk4 := hbk3.set_ k1 (.int .u8 45)
      have hb4 := hb3.setCell (p := ⟨w.heap.size, k1, none⟩) (Nat.le_refl _) (.int .u8 45)
      generalize cur1[k1]'(by omega) = old2 at *
      have HBK4 := hid hbk4
      have HB4 := hid hb4
      have HS := hid hszc
      clear hbk3 hb3 hbk4 hb4 hszc hold hfr
      go_upto_region 28 with fail
      generalize w2.setCell ⟨w.heap.size, k1, none⟩ (.int .u8 45) = w3 at *
      have hsl := slice65 w3 w.heap.size k1 (by omega)
      have hcv := conv_dig HBK4.out HD2.out
      have HBF := hid HB4.out
      have HRS := hid (show mkB (45 :: hexD r) = ⟨(45 :: d :: D).toArray⟩ by unfold mkB; rw [HN.out])
      clear HBK4 HB4 hold2 hfr2
      go_wp2_with fail
      go_ret2
      rw [HRS.out]
      exact ⟨rfl, HBF.out⟩

/-- A number's digits of sixteen, with its sign. -/
def hexI (z : Int) : ByteArray := if z < 0 then mkB (45 :: hexD (-z).toNat) else hexB z.toNat
set_option maxHeartbeats 1000000 in
theorem formatIntI_any (z : Int) (h0 : -2147483648 ≤ z) (h1 : z ≤ 2147483647) (w : World) (hdb : Db w) :
    Calls Tryz.prog 112 #[.int .i64 z, .int .i64 16] w fun e w' => e = .returned (.string (hexI z)) ∧ Below w.heap.size w w' := by
  by_cases hz : z < 0
  · have HF := hid (fbitsM_any (-z).toNat (by omega) (18446744073709551616 + z) (by rw [IntKind.wrap_u64]; omega) w hdb)
    have HX := hid (show hexI z = mkB (45 :: hexD (-z).toNat) from if_pos hz)
    have hw : IntKind.u64.wrap z = 18446744073709551616 + z := by rw [IntKind.wrap_u64]; omega
    generalize hexI z = s at *
    generalize hexD (-z).toNat = l at *
    generalize 18446744073709551616 + z = u at *
    clear hdb h0 h1
    go_enter Tryz.func112, Tryz.ntmps112
    go_wp2_with fail
    refine HF.out.mono ?_
    rintro e w2 ⟨rfl, hb2⟩
    go_wp2_with fail
    go_ret
    rw [HX.out]
    exact ⟨rfl, hb2⟩
  · have HF := hid (fbitsP_any z.toNat (by omega) w hdb)
    have HX := hid (show hexI z = hexB z.toNat from if_neg hz)
    rw [Int.toNat_of_nonneg (by omega)] at HF
    have hw : IntKind.u64.wrap z = z := by rw [IntKind.wrap_u64]; omega
    generalize hexI z = s at *
    generalize hexB z.toNat = l at *
    clear hdb h0 h1
    go_enter Tryz.func112, Tryz.ntmps112
    go_wp2_with fail
    refine HF.out.mono ?_
    rintro e w2 ⟨rfl, hb2⟩
    go_wp2_with fail
    go_ret
    rw [HX.out]
    exact ⟨rfl, hb2⟩
theorem sformatIntI_any (z : Int) (h0 : -2147483648 ≤ z) (h1 : z ≤ 2147483647) (w : World) (hdb : Db w) :
    Calls Tryz.prog 84 #[.int .i64 z, .int .i64 16] w fun e w' => e = .returned (.string (hexI z)) ∧ Below w.heap.size w w' := by
  have HF := hid (formatIntI_any z h0 h1 w hdb)
  clear hdb h0 h1
  go_enter Tryz.func84, Tryz.ntmps84
  go_wp2_with fail
  refine HF.out.mono ?_
  rintro e w2 ⟨rfl, hb2⟩
  go_wp2_with fail
  go_ret
  exact ⟨rfl, hb2⟩
end Go.Proofs.YtpnbkecchfhimaaGreatDoor.Hx
end

/- out of HxP -/
section
namespace Go.Proofs.YtpnbkecchfhimaaGreatDoor.Hx
open Go.RowKit
open Go.Shelf
open Go.Lib (hid)
set_option linter.unusedVariables false
set_option maxRecDepth 100000

theorem extraHx105 : Builder.Extra Tryz.prog Tryz.laysHx105_ren where
  sizeBuilder := by kernel_rfl
  liesBuilder := by kernel_rfl
  t5 := Tryz.underlying5
  a5 := Tryz.isAgg5
  z5 := Tryz.sizeOf5
  v5 := Tryz.zeroValue5
  infoByte := by kernel_rfl
  cellsByte := by kernel_rfl
  sizeByte := by kernel_rfl
  neB5 := by decide
theorem extraHx158 : Builder.Extra Tryz.prog Tryz.laysHx158_ren where
  sizeBuilder := by kernel_rfl
  liesBuilder := by kernel_rfl
  t5 := Tryz.underlying5
  a5 := Tryz.isAgg5
  z5 := Tryz.sizeOf5
  v5 := Tryz.zeroValue5
  infoByte := by kernel_rfl
  cellsByte := by kernel_rfl
  sizeByte := by kernel_rfl
  neB5 := by decide
def hexU (u : Nat) : List UInt8 := Lib.toUpperA (hexD u)
theorem hexU_len (u : Nat) : (hexU u).length = (hexD u).length := by unfold hexU Lib.toUpperA; rw [List.length_map]
/-- A number's text of at least four great digits. -/
def hex4U (u : Nat) : List UInt8 := List.replicate (4 - (hexD u).length) 48 ++ hexU u
def signD (z : Int) : List UInt8 := if z < 0 then [45] else []
def prB (z : Int) : ByteArray := mkB ([85, 43] ++ signD z ++ hex4U z.natAbs)
theorem hex4U_len (u : Nat) (h : u < 4294967296) : (hex4U u).length ≤ 8 := by
  have := hexD_len 8 u (by decide) (by show _ < 4294967296; exact h)
  unfold hex4U
  rw [List.length_append, List.length_replicate, hexU_len]
  omega
theorem hex4U_pos (u : Nat) : 4 ≤ (hex4U u).length := by
  unfold hex4U
  rw [List.length_append, List.length_replicate, hexU_len]
  omega

def hxu0 (u : Nat) : List UInt8 := if u = 0 then [] else hexU u
def dgU (k : Nat) : UInt8 := Lib.upperB (dg k)
theorem toUpperA_append (l k : List UInt8) : Lib.toUpperA (l ++ k) = Lib.toUpperA l ++ Lib.toUpperA k := List.map_append
theorem hxu0_step {u : Nat} (h : u ≠ 0) : hxu0 u = hxu0 (u / 16) ++ [dgU (u % 16)] := by
  unfold hxu0
  rw [if_neg h]
  unfold hexU
  by_cases h16 : u < 16
  · rw [if_pos (by omega), hexD, dif_pos h16, Nat.mod_eq_of_lt h16]; rfl
  · rw [if_neg (by omega), hexD, dif_neg h16, toUpperA_append]; rfl
/-- What the loop makes of the number that is left and the digits so far. -/
def hexZU (u : Nat) (acc : List UInt8) : List UInt8 := List.replicate (4 - acc.length - (hxu0 u).length) 48 ++ (hxu0 u ++ acc)
theorem hexZU_stop {acc : List UInt8} (h : 4 ≤ acc.length) : hexZU 0 acc = acc := by
  unfold hexZU hxu0
  rw [if_pos rfl, show 4 - acc.length - ([] : List UInt8).length = 0 by omega]
  rfl
theorem hexZU_next {u : Nat} {acc : List UInt8} (h : u ≠ 0 ∨ acc.length < 4) : hexZU u acc = hexZU (u / 16) (dgU (u % 16) :: acc) := by
  unfold hexZU
  by_cases hu : u = 0
  · subst hu
    have h4 : acc.length < 4 := h.resolve_left (fun h => h rfl)
    have e0 : hxu0 0 = [] := rfl
    have e2 : dgU (0 % 16) = 48 := by decide
    rw [show 0 / 16 = 0 from rfl, e0, e2, List.length_cons, List.length_nil, show 4 - acc.length - 0 = (4 - (acc.length + 1) - 0) + 1 by omega, List.replicate_succ']
    simp
  · rw [hxu0_step hu, List.length_append, List.length_singleton, List.length_cons, show 4 - (acc.length + 1) - (hxu0 (u / 16)).length = 4 - acc.length - ((hxu0 (u / 16)).length + 1) by omega]
    simp
theorem hexZU_start (u : Nat) : hexZU u [] = hex4U u := by
  unfold hexZU hex4U
  by_cases hu : u = 0
  · subst hu
    have e0 : hxu0 0 = [] := rfl
    have e1 : hexD 0 = [48] := by rw [hexD, dif_pos (by decide)]; rfl
    unfold hexU
    rw [e0, e1]
    rfl
  · have : hxu0 u = hexU u := if_neg hu
    rw [this, List.append_nil, List.length_nil, Nat.sub_zero, hexU_len]
theorem hexZU_len (u : Nat) (acc : List UInt8) : acc.length ≤ (hexZU u acc).length := by
  unfold hexZU
  rw [List.length_append, List.length_append]
  omega
theorem digU_at : ∀ k : Fin 16, (⟨#[48, 49, 50, 51, 52, 53, 54, 55, 56, 57, 65, 66, 67, 68, 69, 70]⟩ : ByteArray).extract k.val (k.val + 1) = mkB [dgU k.val] := by decide
set_option maxHeartbeats 4000000 in
theorem repeat48 : ∀ c, Lib.repeatL [48] c = List.replicate c 48
  | 0 => rfl
  | c + 1 => by
    show [48] ++ Lib.repeatL [48] c = _
    rw [repeat48 c]
    rfl
theorem hexD_ascii (u : Nat) : ∀ b ∈ hexD u, b.toNat < 128 := fun b hb => by
  have := hexD_hx u b hb
  unfold hxP at this
  simp at this
  omega
theorem hexD_sign (u : Nat) : Lib.hasPrefix (hexD u) [45] = false := by
  have hp := hexD_pos u
  cases h : hexD u with
  | nil => rw [h] at hp; exact absurd hp (by decide)
  | cons b l =>
    have hb := hexD_hx u b (by rw [h]; exact List.mem_cons_self ..)
    show ([45] : List UInt8).isPrefixOf (b :: l) = false
    have : b ≠ 45 := fun e => by subst e; exact absurd hb (by decide)
    simp [List.isPrefixOf]
    exact fun e => this e.symm
/-- strings.CutPrefix takes the sign off. -/
theorem cut_sign (z : Int) : Lib.hasPrefix (hexI z).data.toList [45] = decide (z < 0) ∧ (z < 0 → (⟨(Lib.trimPrefix (hexI z).data.toList [45]).toArray⟩ : ByteArray) = hexB z.natAbs) := by
  by_cases hz : z < 0
  · have e : (hexI z).data.toList = 45 :: hexD z.natAbs := by unfold hexI mkB; rw [if_pos hz, show (-z).toNat = z.natAbs by omega]
    have hp : Lib.hasPrefix (45 :: hexD z.natAbs) [45] = true := by simp [Lib.hasPrefix, List.isPrefixOf]
    rw [e, hp, decide_eq_true hz]
    refine ⟨rfl, fun _ => ?_⟩
    unfold Lib.trimPrefix
    rw [if_pos hp]
    rfl
  · have e : (hexI z).data.toList = hexD z.natAbs := by unfold hexI hexB; rw [if_neg hz, show z.toNat = z.natAbs by omega]
    rw [e, hexD_sign, decide_eq_false hz]
    exact ⟨rfl, fun h => absurd h hz⟩
theorem hexI_pos {z : Int} (h : ¬ z < 0) : hexI z = hexB z.natAbs := by
  unfold hexI
  rw [if_neg h, show z.toNat = z.natAbs by omega]
theorem cutP_any (z : Int) (W : World) : Calls Tryz.prog 85 #[.string (hexI z), .string ⟨#[45]⟩] W fun e w' => (∃ x, e = .returned (.tuple #[.string x, .bool (decide (z < 0))]) ∧ (z < 0 → x = hexB z.natAbs)) ∧ w' = W := by
  obtain ⟨h1, h2⟩ := cut_sign z
  refine (Any.strings_CutPrefix (P := Tryz.prog) Tryz.laysHx103 (hexI z) ⟨#[45]⟩ W).mono fun e w' h => ⟨⟨_, ?_, h2⟩, h.2⟩
  rw [h.1, ← h1]
theorem upD_any (u : Nat) (hu : u < 4294967296) (W : World) : Calls Tryz.prog 87 #[.string (hexB u)] W fun e w' => e = .returned (.string (mkB (hexU u))) ∧ Below W.heap.size W w' := by
  have hz8 : (hexB u).size ≤ 8 := by rw [hexB_size]; exact hexD_len 8 _ (by decide) (by show _ < 4294967296; omega)
  exact Any.strings_ToUpper_ascii (P := Tryz.prog) Tryz.laysHx158 extraHx158 (hexB u) W (by omega) (fun j b hj => hexD_ascii u b (List.mem_of_getElem? hj))
theorem rep48_any (c : Nat) (hc : c ≤ 4) (W : World) : Calls Tryz.prog 86 #[.string ⟨#[48]⟩, .int .i64 c] W fun e w' => e = .returned (.string (mkB (List.replicate c 48))) ∧ Below W.heap.size W w' := by
  have := Any.strings_Repeat (P := Tryz.prog) Tryz.laysHx105 extraHx105 ⟨#[48]⟩ c W (by omega) (by show 1 * _ ≤ _; omega)
  have e : (⟨(Lib.repeatL (⟨#[48]⟩ : ByteArray).data.toList c).toArray⟩ : ByteArray) = mkB (List.replicate c 48) := by
    show (⟨(Lib.repeatL [48] _).toArray⟩ : ByteArray) = _
    rw [repeat48]
    rfl
  rw [e] at this
  exact this
set_option maxHeartbeats 4000000 in
theorem scPrint_any (z : Int) (h0 : -2147483648 ≤ z) (h1 : z ≤ 2147483647) (w : World) (hdb : Db w) : Calls Tryz.prog 56 #[.int .i32 z] w fun e w' => e = .returned (.string (prB z)) ∧ Below w.heap.size w w' := by
  have HF := hid (sformatIntI_any z h0 h1 w hdb)
  have e1 : IntKind.i64.wrap z = z := IntWalk.i64_in _ (by omega)
  have HCP := hid (cutP_any z)
  have HPOS := hid (fun h => hexI_pos (z := z) h)
  have hz8 : (hexB z.natAbs).size ≤ 8 := by rw [hexB_size]; exact hexD_len 8 _ (by decide) (by show _ < 4294967296; omega)
  have HUP := hid (upD_any z.natAbs (by omega))
  have hus : (mkB (hexU z.natAbs)).size ≤ 8 := by rw [mkB_size, hexU_len, ← hexB_size]; exact hz8
  have hr := rep48_any (4 - (hexB z.natAbs).size) (by omega)
  have e2 : (((4 - (hexB z.natAbs).size : Nat)) : Int) = max (4 - ((hexB z.natAbs).size : Int)) 0 := by omega
  rw [e2] at hr
  have hrs : (mkB (List.replicate (4 - (hexB z.natAbs).size) 48)).size ≤ 4 := by rw [mkB_size, List.length_replicate]; omega
  have hfin : prB z = mkB ([85, 43]) ++ mkB (signD z) ++ mkB (List.replicate (4 - (hexB z.natAbs).size) 48) ++ mkB (hexU z.natAbs) := by
    unfold prB hex4U
    rw [mkB_append, mkB_append, mkB_append, hexB_size]
    simp
  have HFIN := hid hfin
  have HR := hid hr
  generalize hexB z.natAbs = s at *
  generalize mkB (hexU z.natAbs) = u at *
  generalize mkB (List.replicate (4 - s.size) 48) = t at *
  generalize hexI z = x at *
  clear hdb hr hfin e2 h0 h1
  have hc1 : ¬ (2 + t.size > 9223372036854775807) := by omega
  have hc2 : ¬ (9223372036854775807 < 2 + t.size) := by omega
  have hc3 : ¬ (3 + t.size > 9223372036854775807) := by omega
  have hc4 : ¬ (9223372036854775807 < 3 + t.size) := by omega
  have hc5 : ¬ (2 + t.size + u.size > 9223372036854775807) := by omega
  have hc6 : ¬ (9223372036854775807 < 2 + t.size + u.size) := by omega
  have hc7 : ¬ (3 + t.size + u.size > 9223372036854775807) := by omega
  have hc8 : ¬ (9223372036854775807 < 3 + t.size + u.size) := by omega
  by_cases hz : z < 0
  · have HZ := hid hz
    have HSG := hid (show mkB (signD z) = ⟨#[45]⟩ by unfold signD; rw [if_pos hz]; rfl)
    clear hz
    go_enter Tryz.func56, Tryz.ntmps56
    go_wp2_with (go_at_call 84; refine HF.out.mono ?_; rintro e w2 ⟨rfl, hb⟩; have HB := hid hb; clear hb)
    refine (HCP.out _).mono ?_
    rintro e w3 ⟨⟨y, rfl, hy⟩, hw3⟩
    obtain rfl : w2 = w3 := hw3.symm
    obtain rfl : y = s := hy HZ.out
    rw [decide_eq_true HZ.out]
    clear hy
    go_wp2_with (first
      | (go_at_call 86; refine (HR.out _).mono ?_; rintro e w3 ⟨rfl, hb⟩; have HB3 := hid (HB.out.trans (hb.mono HB.out.size)); clear hb)
      | (go_at_call 87; refine (HUP.out _).mono ?_; rintro e w4 ⟨rfl, hb⟩; have HB4 := hid (HB3.out.trans (hb.mono HB3.out.size)); clear hb))
    go_ret
    rw [HFIN.out, HSG.out]
    exact ⟨rfl, HB4.out⟩
  · have HZ := hid hz
    have HSG := hid (show mkB (signD z) = ⟨#[]⟩ by unfold signD; rw [if_neg hz]; rfl)
    obtain rfl : x = s := HPOS.out hz
    clear hz
    go_enter Tryz.func56, Tryz.ntmps56
    go_wp2_with (go_at_call 84; refine HF.out.mono ?_; rintro e w2 ⟨rfl, hb⟩; have HB := hid hb; clear hb)
    refine (HCP.out _).mono ?_
    rintro e w3 ⟨⟨y, rfl, hy⟩, hw3⟩
    obtain rfl : w2 = w3 := hw3.symm
    rw [decide_eq_false (Int.not_lt.2 HZ.out)]
    clear hy
    go_wp2_with (first
      | (go_at_call 86; refine (HR.out _).mono ?_; rintro e w3 ⟨rfl, hb⟩; have HB3 := hid (HB.out.trans (hb.mono HB.out.size)); clear hb)
      | (go_at_call 87; refine (HUP.out _).mono ?_; rintro e w4 ⟨rfl, hb⟩; have HB4 := hid (HB3.out.trans (hb.mono HB3.out.size)); clear hb))
    go_ret
    rw [HFIN.out, HSG.out]
    exact ⟨rfl, HB4.out⟩
end Go.Proofs.YtpnbkecchfhimaaGreatDoor.Hx
end
