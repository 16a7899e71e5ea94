/- The walk of the law EntityCuts. -/
import Derived.Test.YtddbbgjpfdcjfaaDoorEnU
import Derived.Test.YtddbbgjpfdcjfaaDoorAppC
namespace Go.Proofs.YtddbbgjpfdcjfaaDoor.entityCuts
open Go.RowKit
open Go.Lib (hid)
set_option linter.unusedVariables false

theorem slice_front (b off n cap k : Nat) (hk : k ≤ cap) (hc : ¬ cap = 0) (W : World) : (Instr.slice 22 (.slice (some ⟨b, off, none⟩) n cap) none (some (.int .i64 k)) none).run Tryd.prog W = .ok (.slice (some ⟨b, off, none⟩) k cap) W := by
  rw [run_slice_h (P := Tryd.prog) W 22 _ n cap rfl .i64 k (by omega) (by omega)]
  have hs : (sizeOf (Tryd.prog.elem 22)).run Tryd.prog W = .ok 1 W := by go_simp
  rw [hs]
  simp [Result.andThen, sliced, hc, Addr.add]
theorem ba_front (W : World) (s : ByteArray) (hs : s.size ≤ 1000000) (n : Nat) (hn : n ≤ s.size) : BA (Lib.bytesWorld W 5 s) (some ⟨W.heap.size, 0, none⟩) n (grownCap W s.size 0 5) (s.extract 0 n) := by
  have hge := grownCap_ge W s.size 0 5
  refine ⟨by rw [ByteArray.size_extract]; omega, by omega, by have := grownCap_le_maxLen W s.size 0 5 (by unfold maxLen; omega); unfold maxLen at this; omega, fun h0 => ⟨W.heap.size, 0, rfl, by rw [Lib.bytesWorld_size]; omega, ?_⟩⟩
  apply bytes_of_byt
  intro i hi
  rw [ByteArray.size_extract] at hi
  rw [byt_ext0 s (by omega) hn]
  exact bytes_cell (bytesWorld_new W 5 s) (by omega)
theorem ba_bytes (W : World) (s : ByteArray) (hs : s.size ≤ 1000000) : BA (Lib.bytesWorld W 5 s) (some ⟨W.heap.size, 0, none⟩) s.size (grownCap W s.size 0 5) s :=
  ⟨rfl, grownCap_ge _ _ _ _, by have := grownCap_le_maxLen W s.size 0 5 (by unfold maxLen; omega); unfold maxLen at this; omega, fun hn => ⟨W.heap.size, 0, rfl, by rw [Lib.bytesWorld_size]; omega, bytesWorld_new W 5 s⟩⟩

set_option maxRecDepth 100000 in
set_option maxHeartbeats 8000000 in
theorem walk (r : Int) (k : Int) (a : Option Addr) (aLen aCap : Nat) (aD : List Int) (w : World) (w0 : (Lit.int .i32 r).wf = true) (w1 : (Lit.int .u8 k).wf = true) (w2 : IsRow .u8 w a aLen aCap aD) (hdb : Db w) :
    Calls Tryd.prog 7 #[.int .i32 r, .int .u8 k, .slice a aLen aCap] w fun e w' => e = .returned (.bool true) ∧ Below w.heap.size w w' := by
  obtain ⟨m, hs⟩ := ba_of w2
  have hk0 : 0 ≤ k ∧ k ≤ 255 := by
    simp only [Lit.wf, IntKind.min, IntKind.max, IntKind.signed, IntKind.bits, Bool.and_eq_true] at w1
    simp at w1
    omega
  have HAW := hid (awake_any w)
  have HDB := hid hdb
  clear w0 w1 w2 hdb
  by_cases hbig : 60 < aLen
  · have hbig' : (60 : Int) < (aLen : Int) := by omega
    clear hs
    go_enter Tryd.func7, Tryd.ntmps7
    go_wp2_with fail
    refine HAW.out.mono ?_
    rintro e w3 ⟨rfl, hb3⟩
    go_wp2_with fail
    go_ret
    exact ⟨rfl, hb3⟩
  have hbig' : ¬ (60 : Int) < (aLen : Int) := by omega
  have ha60 : aLen ≤ 60 := by omega
  have HS := hid hs
  clear hs hbig
  obtain ⟨kn, rfl⟩ : ∃ kn : Nat, k = kn := ⟨k.toNat, by omega⟩
  go_enter Tryd.func7, Tryd.ntmps7
  go_wp2_with fail
  refine HAW.out.mono ?_
  rintro e w3 ⟨rfl, hb3⟩
  have HB3 := hid hb3
  have HEW := hid (entwrite_any r w3 (HDB.out.below hb3 (Nat.le_refl _)))
  clear hb3 HAW HDB
  by_cases hno : r = 0 ∨ ¬ rightV r
  · have hS := write_none.2 hno
    rw [hS] at HEW
    clear hS
    by_cases hz : r = 0
    · subst hz
      clear hno
      go_wp2_with fail
      refine HEW.out.mono ?_
      rintro e w4 ⟨rfl, hb4⟩
      have HB4 := hid (HB3.out.trans (hb4.mono HB3.out.size))
      clear hb4
      go_wp2_with fail
      go_ret
      exact ⟨rfl, HB4.out⟩
    · have hzb : (r == 0) = false := by simpa using hz
      have hrb : rightR r = false := by
        rw [Bool.eq_false_iff]
        intro h
        exact hno.elim hz fun h2 => h2 ((rightR_iff r).1 h)
      have hrr := fun W => refright_any r W
      rw [hrb] at hrr
      have HRR := hid hrr
      clear hno hrb hrr hz
      go_wp2_with fail
      refine HEW.out.mono ?_
      rintro e w4 ⟨rfl, hb4⟩
      have HB4 := hid (HB3.out.trans (hb4.mono HB3.out.size))
      clear hb4
      go_wp2_with (go_at_call 18; refine (HRR.out _).mono ?_; rintro e w2 ⟨rfl, hw2⟩; obtain rfl : w4 = w2 := hw2.symm)
      go_ret
      exact ⟨rfl, HB4.out⟩
  have hz : r ≠ 0 := fun h => hno (.inl h)
  have hrv : rightV r := Classical.byContradiction fun h => hno (.inr h)
  obtain ⟨hrd, hs10, hs3⟩ := write_read hz hrv m
  obtain ⟨hrd0, _, _⟩ := write_read hz hrv ⟨#[]⟩
  rw [append_empty] at hrd0
  have hop := read_open hrd0
  have hcut := fun n (h : n < (writeR r).size) => write_cut hz hrv h
  generalize writeR r = S at *
  obtain ⟨z, hz1⟩ : ∃ z, z = S.size := ⟨_, rfl⟩
  obtain ⟨n, hn⟩ : ∃ n, n = kn % z := ⟨_, rfl⟩
  have hnz : n < z := by rw [hn]; exact Nat.mod_lt _ (by omega)
  have hmod : (kn : Int) % (S.size : Int) = (n : Int) := by rw [hn, hz1]; omega
  have hmodt : Int.tmod (kn : Int) (S.size : Int) = (n : Int) := by rw [hn, hz1]; rfl
  obtain ⟨hc1, hc2⟩ := hcut n (by omega)
  have hne : ¬ S = ⟨#[]⟩ := fun e => by rw [e] at hs3; exact absurd hs3 (by decide)
  obtain ⟨a0, b0⟩ := lit_ne (l := []) hne
  have a5 : S.toList.isEmpty = false := by simpa using a0
  have hsn0 : ¬ (S.size : Int) = 0 := by omega
  have hsn1 : ((S.size : Int) == 0) = false := by rw [beq_eq_false_iff_ne]; omega
  have HZ1 := hid hz1
  have hnS : (n : Int) ≤ (S.size : Int) := by omega
  have HNS := hid (show n ≤ S.size by omega)
  have HCV := hid (fun (W : World) => Lib.run_convert_string_bytes (P := Tryd.prog) W 9 22 5 S Tryd.underlying9 Tryd.underlying22 Tryd.underlying5)
  have HSL := hid (fun (W W' : World) => slice_front W.heap.size 0 S.size (grownCap W S.size 0 5) n (by have := grownCap_ge W S.size 0 5; have := HNS.out; omega) (by have := grownCap_ge W S.size 0 5; omega) W')
  have HR1 := hid (fun (W : World) => entread_any (some ⟨W.heap.size, 0, none⟩) n (grownCap W S.size 0 5) 0 (S.extract 0 n) _ (ba_front W S (by omega) n HNS.out) (by have := HNS.out; omega) (by decide))
  have HO1 := hid (fun (W : World) => entopen_any (some ⟨W.heap.size, 0, none⟩) n (grownCap W S.size 0 5) (S.extract 0 n) _ (ba_front W S (by omega) n HNS.out) (by have := HNS.out; omega))
  have HO2 := hid (fun (W : World) => entopen_any (some ⟨W.heap.size, 0, none⟩) S.size (grownCap W S.size 0 5) S _ (ba_bytes W S (by omega)) (by omega))
  rw [hc1] at HR1
  rw [hc2] at HO1
  rw [hop] at HO2
  simp only [pairV, Option.getD_none] at HR1
  have HBW := hid (fun (W : World) => bytesWorld_below W 5 S)
  have HBZ := hid (fun (W : World) => (bytesWorld_below W 5 S).size)
  have HRD := hid hrd
  have HS10 := hid hs10
  clear hrd hrd0 hop hcut hc1 hc2 hz1 hn hnz hne hno hz hrv hs10 hs3 a0
  go_wp2_with fail
  refine HEW.out.mono ?_
  rintro e w4 ⟨rfl, hb4⟩
  have HB4 := hid (HB3.out.trans (hb4.mono HB3.out.size))
  have hcv4 := HCV.out w4
  have hsl4 := fun W' => HSL.out w4 W'
  clear hb4 HEW
  go_wp2_with fail
  refine (HR1.out w4).mono ?_
  rintro e w5 ⟨rfl, hb5⟩
  have HB5 := hid (HB4.out.trans (((HBW.out w4).trans (hb5.mono (HBZ.out w4))).mono HB4.out.size))
  have hcv5 := HCV.out w5
  have HBA := hid ((HS.out.below HB5.out (Nat.le_refl _)).below (bytesWorld_below w5 5 S) (Nat.le_refl _))
  clear hb5 hcv4 hsl4
  go_wp2_with (at_builtin; go_must (refine wpList_append_conv rfl (.tmp 47) (.tmp 48) rfl w5 S m rfl a aLen aCap rfl HBA.out (by have := HS10.out; omega) (by omega) ?_); intro A6 c6 w6 hba6 hb6)
  have HB6 := hid (HB5.out.trans (hb6.mono HB5.out.size))
  have her := entread_any A6 (S.size + aLen) c6 0 (S ++ m) w6 hba6 (by have := HS10.out; omega) (by decide)
  rw [HRD.out] at her
  simp only [pairV, Option.getD_some] at her
  have HER := hid her
  clear her hb6 hba6 hcv5
  refine HER.out.mono ?_
  rintro e w7 ⟨rfl, hb7⟩
  have HB7 := hid (HB6.out.trans (hb7.mono HB6.out.size))
  have hcv7 := HCV.out w7
  have hsl7 := fun W' => HSL.out w7 W'
  clear hb7 HER
  go_wp2_with fail
  refine (HO1.out w7).mono ?_
  rintro e w8 ⟨rfl, hb8⟩
  have HB8 := hid (HB7.out.trans (((HBW.out w7).trans (hb8.mono (HBZ.out w7))).mono HB7.out.size))
  have hcv8 := HCV.out w8
  clear hb8 hcv7 hsl7
  by_cases hn0 : n = 0
  · subst hn0
    go_wp2_with fail
    refine (HO2.out w8).mono ?_
    rintro e w9 ⟨rfl, hb9⟩
    have HB9 := hid (HB8.out.trans (((HBW.out w8).trans (hb9.mono (HBZ.out w8))).mono HB8.out.size))
    clear hb9 hcv8
    go_wp2_with fail
    go_ret
    exact ⟨rfl, HB9.out⟩
  · have hn1 : (0 : Int) < (n : Int) := by omega
    have hn2 : 0 < n := by omega
    clear hn0
    rw [decide_eq_true hn2]
    go_wp2_with fail
    refine (HO2.out w8).mono ?_
    rintro e w9 ⟨rfl, hb9⟩
    have HB9 := hid (HB8.out.trans (((HBW.out w8).trans (hb9.mono (HBZ.out w8))).mono HB8.out.size))
    clear hb9 hcv8
    go_wp2_with fail
    go_ret
    exact ⟨rfl, HB9.out⟩
end Go.Proofs.YtddbbgjpfdcjfaaDoor.entityCuts
