/- Texts of an earlier chapter (Tg), merged by a program of mine. -/
import Derived.Test.YtpnbkecchfhimaaGreatDoorBase
import Derived.Test.YtpnbkecchfhimaaGreatDoorMem
import Derived.Test.YtpnbkecchfhimaaGreatDoorWords
import Derived.Test.YtpnbkecchfhimaaGreatDoorOpen
import Derived.Test.YtpnbkecchfhimaaGreatDoorByt
import Derived.Test.YtpnbkecchfhimaaGreatDoorInv
import Derived.Test.YtpnbkecchfhimaaGreatDoorTkShelf
import Derived.Test.YtpnbkecchfhimaaGreatDoorMTg3
import Derived.BigQuiet
import Derived.BigRegion
import Derived.Deep.DeepCutAuto
import Derived.Deep.LoopGhost
import Derived.Deep.QuietTactic
import Derived.Deep.RegionWith
import Derived.Laws.CopyOwn
import Derived.Laws.Tables
import Derived.Lib.ConvBytes
import Derived.Lib.IndexMore
import Derived.Lib.SlBytesConst
import Derived.Lib.SlBytesRow
import Derived.Maps.AppendAt
import Derived.WalkKit
/- out of TagRT5 -/
namespace Go.Proofs.YtpnbkecchfhimaaGreatDoor
set_option maxRecDepth 100000
open Go.RowKit
open Go.Lib (hid)
set_option linter.unusedVariables false
set_option maxRecDepth 1000000 in
set_option maxHeartbeats 40000000 in
theorem rt_case4 (b off n cap fr : Nat) (kd : Int) (s : ByteArray) (hi : fr ≤ n) (hcap : n ≤ cap) (hc63 : cap ≤ 9223372036854775807)
    (hm : n ≤ 1048576) (w : World) (hbB : b < w.heap.size) (HZ : Hid (Lib.Bytes w b off s)) (HN : Hid (n = s.size)) (M : Mk) (HM : Hid (refNamed s fr kd = M))
    (gk : Nat) (wr : World) (J : Nat → Act → World → Prop) (K : Act → World → Prop) (K2 : Act → World → Prop) (Q : Exit → Act → World → Prop)
    (hJ : ∀ k' a' w', rtI b off n cap fr kd s w M k' a' w' → J k' a' w') (hK : ∀ a' w', Handed J gk a' w' → K a' w')
    (HQR : Hid (∀ a' w', bodyPost Tryz.prog Tryz.f73 (rtR s fr kd w) .ret a' w' → Q .ret a' w'))
    (i : Nat) (sl : Bool) (nm vl : ByteArray) (q : Int) (tn : ByteArray) (at_ : List (ByteArray × ByteArray)) (v : Value)
    (hin : i ≤ n) (hg : n - i ≤ gk) (hlt : i < n) (HRT : Hid (RT s w wr kd i ⟨4, sl, nm, vl, q, tn, at_⟩ v M))
    (u14 u15 u16 u20 u21 u22 u23 u24 u25 u26 u27 u28 u29 u30 u31 u32 u33 u34 u35 u36 u37 u38 u39 u40 u41 u42 u43 u44 u45 u46 u47 u48 u49 u50 u51 u52 u53 u54 u55 u56 u57 u58 u59 u60 u61 u62 u63 u64 u65 u66 u67 u68 u69 u70 u71 u72 u73 u74 u75 u76 u77 u78 u79 u80 u81 u82 u83 u84 u85 u86 u87 u88 u89 u90 u91 u92 u93 u94 u95 u96 u97 u98 u99 u100 u101 u102 u103 u104 u105 u106 u107 u108 u109 u110 u111 u112 u113 u114 u115 u116 u117 u118 u119 u120 u121 u122 u123 u124 u125 u126 u127 u128 u129 u130 u131 u132 u133 u134 u135 u136 u137 u138 u139 u140 u141 u142 u143 u144 u145 u146 u147 u148 u149 u150 u151 u152 u153 u154 u155 u156 u157 u158 u159 u160 u161 u162 u163 u164 u165 u166 u167 u168 u169 u170 u171 u172 u173 u174 u175 u176 u177 u178 u179 u180 u181 u182 u183 u184 u185 u186 u187 u188 u189 : Value) :
    Code.wp Tryz.prog rtBody (Exit.then K (Exit.inBlock 0 (Exit.then K2 Q))) ⟨#[.slice (some ⟨b, off, none⟩) n cap, .int .i64 (fr : Nat), .int .i64 kd, undef, undef, undef, .pointer (some ⟨w.heap.size, 0, none⟩), .pointer (some ⟨w.heap.size + 1, 0, none⟩), .int .i64 4, .bool sl, .string nm, .string vl, .int .u8 q, .int .i64 i, u14, u15, u16, .int .i64 kd, .agg #[.int .i64 kd, .int .i64 0, .string ⟨#[]⟩, .slice none 0 0, .bool false, .bool false], .int .i64 (fr : Nat), u20, u21, u22, u23, u24, u25, u26, u27, u28, u29, u30, u31, u32, u33, u34, u35, u36, u37, u38, u39, u40, u41, u42, u43, u44, u45, u46, u47, u48, u49, u50, u51, u52, u53, u54, u55, u56, u57, u58, u59, u60, u61, u62, u63, u64, u65, u66, u67, u68, u69, u70, u71, u72, u73, u74, u75, u76, u77, u78, u79, u80, u81, u82, u83, u84, u85, u86, u87, u88, u89, u90, u91, u92, u93, u94, u95, u96, u97, u98, u99, u100, u101, u102, u103, u104, u105, u106, u107, u108, u109, u110, u111, u112, u113, u114, u115, u116, u117, u118, u119, u120, u121, u122, u123, u124, u125, u126, u127, u128, u129, u130, u131, u132, u133, u134, u135, u136, u137, u138, u139, u140, u141, u142, u143, u144, u145, u146, u147, u148, u149, u150, u151, u152, u153, u154, u155, u156, u157, u158, u159, u160, u161, u162, u163, u164, u165, u166, u167, u168, u169, u170, u171, u172, u173, u174, u175, u176, u177, u178, u179, u180, u181, u182, u183, u184, u185, u186, u187, u188, u189, undef, undef, undef, undef, undef, undef, undef, undef, undef, undef, undef, undef, undef, undef], []⟩ wr := by
  conv => arg 2; whnf
  unfold rtI at hJ
  obtain ⟨i0, hi0, hz0, hz1, hz2⟩ := info_parts info_rattr
  have hlt' : (i : Int) < (n : Int) := by omega
  have his : i < s.size := by have := HN.out; omega
  have hbr := HRT.out.bel
  have hzr : Lib.Bytes wr b off s := Bytes.keepAt HZ.out fun j => World.cell?_of_block (hbr.block b hbB)
  have hcell := bytes_cell hzr his
  have hi1 : (i : Int) + 1 ≤ 9223372036854775807 := by omega
  have hsl : ∀ W, (Instr.slice 22 (.slice (some ⟨b, off, none⟩) n cap) (some (.int .i64 i)) (some (.int .i64 ((i : Int) + 1))) none).run Tryz.prog W = .ok (.slice (some ⟨b, off + i, none⟩) 1 (cap - i)) W := fun W => by
    have := slice_row b off n cap i (i + 1) (by omega) (by omega) (by omega) W
    rw [show i + 1 - i = 1 by omega] at this
    simpa using this
  have hcv : (convert 22 9 (.slice (some ⟨b, off + i, none⟩) 1 (cap - i))).run Tryz.prog wr = .ok (.string (at1 s i)) wr :=
    Lib.run_convert_window (P := Tryz.prog) wr 22 5 9 Tryz.underlying22 Tryz.underlying5 Tryz.underlying9 b off s hzr i 1 (cap - i) (by omega)
  have hch : (at1 s i).size = 1 := by unfold at1; rw [ByteArray.size_extract]; omega
  have hcr := byt_nonneg s i
  have hgo := fun st' => fromT_go s kd i ⟨4, sl, nm, vl, q, tn, at_⟩ st' his
  have hstop := fun st' => fromT_stop s kd i ⟨4, sl, nm, vl, q, tn, at_⟩ st' his
  rw [HRT.out.go] at hgo hstop
  generalize at1 s i = ch at *
  generalize byt s i = c at *
  have HGO := hid hgo
  have HSTOP := hid hstop
  have hlow := fun W => rlower_any ch (by omega) W
  have HLOW := hid hlow
  have HCH := hid hch
  have g2 := HRT.out.blk.cell 2
  have g3 := HRT.out.blk.cell 3
  have frg := HRT.out.blk.frozen
  simp only [rfC, List.getElem?_toArray, List.getElem?_cons_zero, List.getElem?_cons_succ] at g2 g3
  have hbl : ∀ W, Calls Tryz.prog 69 #[.int .u8 c] W fun e w' => e = .returned (.bool (blankB c)) ∧ w' = W := fun W => refblank_any c W
  have HBL := hid hbl
  clear hbr hzr hgo hstop hlow hch hbl hcr
  have tsz := HRT.out.sz
  simp only at tsz
  have TSZ := hid tsz
  clear tsz
  by_cases h62 : c = 62
  · subst h62
    rw [show blankB 62 = false from rfl] at HBL
    have HE := hid (HSTOP.out ⟨1, false, nm, vl, q, tn, (at_ ++ [(nm, ⟨#[]⟩)])⟩ (by unfold stepT; first | (simp; done) | simp [show blankB 62 = false from rfl]))
    have c0 := HRT.out.blk.cell 0
    have r0 := HRT.out.res.cell 0
    have c1 := HRT.out.blk.cell 1
    have r1 := HRT.out.res.cell 1
    have c2 := HRT.out.blk.cell 2
    have r2 := HRT.out.res.cell 2
    have c3 := HRT.out.blk.cell 3
    have r3 := HRT.out.res.cell 3
    have c4 := HRT.out.blk.cell 4
    have r4 := HRT.out.res.cell 4
    have c5 := HRT.out.blk.cell 5
    have r5 := HRT.out.res.cell 5
    have frr := HRT.out.res.frozen
    simp only [rfC, tag0, List.getElem?_toArray, List.getElem?_cons_zero, List.getElem?_cons_succ] at c0 c1 c2 c3 c4 c5 r0 r1 r2 r3 r4 r5
    have hvs := owns_slice HRT.out.own
    obtain ⟨A0, cp0, rfl⟩ := hvs
    clear c0 c1 c2 c3 c4 c5 r0 r1 r2 r3 r4 r5 frr
    go_wp2_with (first | (go_at_call 69; refine (HBL.out _).mono ?_; rintro e w' ⟨rfl, hw'⟩; obtain rfl : wr = w' := hw'.symm) | (at_builtin; go_must (refine wpList_append_any _ rfl (.tmp 142) (.tmp 145) 78 rfl (w.heap.size + 2) 162 i0 (.agg #[.string ⟨#[]⟩, .string ⟨#[]⟩]) 2 32 Tryz.underlying78 hi0 hz0 hz1 hz2 rfl (by decide) _ at_.length (atCells at_) rfl (HRT.out.own.alloc _) _ (some ⟨wr.heap.size, 0, none⟩) 1 1 [.string nm, .string ⟨#[]⟩] rfl (reads_blk2 (Blk.new wr _ _)) (by simp [Value.oneCell']) (by have := TSZ.out; unfold maxLen; omega) (by have := TSZ.out; omega) (by have := HRT.out.blk.lt; simp; omega) ?_); intro v' w2 ho2 hg2 hl2; obtain ⟨A2, c2, rfl⟩ := owns_slice ho2; have hv2 := own_ge HRT.out.own; have hblk2 := (HRT.out.blk.alloc _).grown hg2 (fun e => by have := hv2 _ e.symm; omega); have hres2 := (HRT.out.res.alloc _).grown hg2 (fun e => by have := hv2 _ e.symm; omega); have k0 := hblk2.cell 0; have j0 := hres2.cell 0; have k1 := hblk2.cell 1; have j1 := hres2.cell 1; have k2 := hblk2.cell 2; have j2 := hres2.cell 2; have k3 := hblk2.cell 3; have j3 := hres2.cell 3; have k4 := hblk2.cell 4; have j4 := hres2.cell 4; have k5 := hblk2.cell 5; have j5 := hres2.cell 5; have frk := hblk2.frozen; have frj := hres2.frozen; simp only [rfC, tag0, List.getElem?_toArray, List.getElem?_cons_zero, List.getElem?_cons_succ] at k0 k1 k2 k3 k4 k5 j0 j1 j2 j3 j4 j5; have HO2 := hid ho2; have HG2 := hid hg2; clear ho2 hg2 hl2 hv2 hblk2 hres2))
    have HFIN := hid ((HRT.out.app (k' := 1) (sl' := false) (nm' := nm) (vl' := vl) HO2.out HG2.out rfl (by have := TSZ.out; have := HCH.out; first | exact Nat.zero_le _ | omega | (rw [ByteArray.size_append]; omega) | (rw [lowerB_size]; omega) | (rw [ByteArray.size_append, lowerB_size]; omega)) (by have := TSZ.out; have := HCH.out; first | exact Nat.zero_le _ | omega | (rw [ByteArray.size_append]; omega) | (rw [lowerB_size]; omega) | (rw [ByteArray.size_append, lowerB_size]; omega))).ret (i + 1) false ⟨kd, i + 1, tn, (at_ ++ [(nm, ⟨#[]⟩)]), false, true⟩ rfl)
    (try simp only [Exit.inBlock, Exit.then])
    refine HQR.out _ _ (bodyPost_ret (results_cell_row rfl _ _ w.heap.size _ _ _ _ rfl HFIN.out.1 Tryz.underlying80 rfl (by kernel_rfl)) rfl ?_)
    unfold rtR
    rw [HM.out, HE.out]
    exact ⟨_, rfl, HFIN.out.2.1, HFIN.out.2.2⟩
  by_cases h34 : c = 34
  · subst h34
    rw [show blankB 34 = false from rfl] at HBL
    have HE := hid (HGO.out ⟨6, sl, nm, vl, 34, tn, at_⟩ (by unfold stepT; first | (simp; done) | simp [show blankB 34 = false from rfl]))
    go_wp2_with (first | (go_at_call 69; refine (HBL.out _).mono ?_; rintro e w' ⟨rfl, hw'⟩; obtain rfl : wr = w' := hw'.symm))
    go_roundg (n - (i + 1))
    case measure => omega
    case rel => exact ⟨i + 1, 6, 6, sl, nm, vl, 34, tn, at_, v, rfl, rfl, rfl, rfl, rfl, rfl, rfl, by omega, Nat.le_refl _, by decide, HRT.out.same HE.out (by have := TSZ.out; have := HCH.out; first | exact Nat.zero_le _ | omega | (rw [ByteArray.size_append]; omega) | (rw [lowerB_size]; omega) | (rw [ByteArray.size_append, lowerB_size]; omega)) (by have := TSZ.out; have := HCH.out; first | exact Nat.zero_le _ | omega | (rw [ByteArray.size_append]; omega) | (rw [lowerB_size]; omega) | (rw [ByteArray.size_append, lowerB_size]; omega))⟩
  by_cases h39 : c = 39
  · subst h39
    rw [show blankB 39 = false from rfl] at HBL
    have HE := hid (HGO.out ⟨6, sl, nm, vl, 39, tn, at_⟩ (by unfold stepT; first | (simp; done) | simp [show blankB 39 = false from rfl]))
    go_wp2_with (first | (go_at_call 69; refine (HBL.out _).mono ?_; rintro e w' ⟨rfl, hw'⟩; obtain rfl : wr = w' := hw'.symm))
    go_roundg (n - (i + 1))
    case measure => omega
    case rel => exact ⟨i + 1, 6, 6, sl, nm, vl, 39, tn, at_, v, rfl, rfl, rfl, rfl, rfl, rfl, rfl, by omega, Nat.le_refl _, by decide, HRT.out.same HE.out (by have := TSZ.out; have := HCH.out; first | exact Nat.zero_le _ | omega | (rw [ByteArray.size_append]; omega) | (rw [lowerB_size]; omega) | (rw [ByteArray.size_append, lowerB_size]; omega)) (by have := TSZ.out; have := HCH.out; first | exact Nat.zero_le _ | omega | (rw [ByteArray.size_append]; omega) | (rw [lowerB_size]; omega) | (rw [ByteArray.size_append, lowerB_size]; omega))⟩
  cases hblc : blankB c
  case true =>
    rw [hblc] at HBL
    have nD : c ≠ 34 := h34
    have bD : (c == 34) = false := by simpa using nD
    have iD : (c != 34) = true := by simpa using nD
    have nF : c ≠ 39 := h39
    have bF : (c == 39) = false := by simpa using nF
    have iF : (c != 39) = true := by simpa using nF
    have nE : c ≠ 62 := h62
    have bE : (c == 62) = false := by simpa using nE
    have iE : (c != 62) = true := by simpa using nE
    have HE := hid (HGO.out ⟨4, sl, nm, vl, q, tn, at_⟩ (by unfold stepT; first | (simp; done) | (simp [hblc]; done) | (simp [hblc, nD]; done) | (simp [hblc, nD, nF]; done) | simp [hblc, nD, nF, nE]))
    clear nD nF nE hblc h62 h34 h39
    go_wp2_with (first | (go_at_call 69; refine (HBL.out _).mono ?_; rintro e w' ⟨rfl, hw'⟩; obtain rfl : wr = w' := hw'.symm))
    go_roundg (n - (i + 1))
    case measure => omega
    case rel => exact ⟨i + 1, 4, 4, sl, nm, vl, q, tn, at_, v, rfl, rfl, rfl, rfl, rfl, rfl, rfl, by omega, Nat.le_refl _, by decide, HRT.out.same HE.out (by have := TSZ.out; have := HCH.out; first | exact Nat.zero_le _ | omega | (rw [ByteArray.size_append]; omega) | (rw [lowerB_size]; omega) | (rw [ByteArray.size_append, lowerB_size]; omega)) (by have := TSZ.out; have := HCH.out; first | exact Nat.zero_le _ | omega | (rw [ByteArray.size_append]; omega) | (rw [lowerB_size]; omega) | (rw [ByteArray.size_append, lowerB_size]; omega))⟩
  case false =>
    rw [hblc] at HBL
    have nD : c ≠ 34 := h34
    have bD : (c == 34) = false := by simpa using nD
    have iD : (c != 34) = true := by simpa using nD
    have nF : c ≠ 39 := h39
    have bF : (c == 39) = false := by simpa using nF
    have iF : (c != 39) = true := by simpa using nF
    have nE : c ≠ 62 := h62
    have bE : (c == 62) = false := by simpa using nE
    have iE : (c != 62) = true := by simpa using nE
    have HE := hid (HGO.out ⟨5, sl, nm, ch, q, tn, at_⟩ (by unfold stepT; first | (simp; done) | (simp [hblc]; done) | (simp [hblc, nD]; done) | (simp [hblc, nD, nF]; done) | simp [hblc, nD, nF, nE]))
    clear nD nF nE hblc h62 h34 h39
    go_wp2_with (first | (go_at_call 69; refine (HBL.out _).mono ?_; rintro e w' ⟨rfl, hw'⟩; obtain rfl : wr = w' := hw'.symm))
    go_roundg (n - (i + 1))
    case measure => omega
    case rel => exact ⟨i + 1, 5, 5, sl, nm, ch, q, tn, at_, v, rfl, rfl, rfl, rfl, rfl, rfl, rfl, by omega, Nat.le_refl _, by decide, HRT.out.same HE.out (by have := TSZ.out; have := HCH.out; first | exact Nat.zero_le _ | omega | (rw [ByteArray.size_append]; omega) | (rw [lowerB_size]; omega) | (rw [ByteArray.size_append, lowerB_size]; omega)) (by have := TSZ.out; have := HCH.out; first | exact Nat.zero_le _ | omega | (rw [ByteArray.size_append]; omega) | (rw [lowerB_size]; omega) | (rw [ByteArray.size_append, lowerB_size]; omega))⟩

end Go.Proofs.YtpnbkecchfhimaaGreatDoor

/- out of TagRT6 -/
namespace Go.Proofs.YtpnbkecchfhimaaGreatDoor
set_option maxRecDepth 100000
open Go.RowKit
open Go.Lib (hid)
set_option linter.unusedVariables false
set_option maxRecDepth 1000000 in
set_option maxHeartbeats 40000000 in
theorem rt_case5 (b off n cap fr : Nat) (kd : Int) (s : ByteArray) (hi : fr ≤ n) (hcap : n ≤ cap) (hc63 : cap ≤ 9223372036854775807)
    (hm : n ≤ 1048576) (w : World) (hbB : b < w.heap.size) (HZ : Hid (Lib.Bytes w b off s)) (HN : Hid (n = s.size)) (M : Mk) (HM : Hid (refNamed s fr kd = M))
    (gk : Nat) (wr : World) (J : Nat → Act → World → Prop) (K : Act → World → Prop) (K2 : Act → World → Prop) (Q : Exit → Act → World → Prop)
    (hJ : ∀ k' a' w', rtI b off n cap fr kd s w M k' a' w' → J k' a' w') (hK : ∀ a' w', Handed J gk a' w' → K a' w')
    (HQR : Hid (∀ a' w', bodyPost Tryz.prog Tryz.f73 (rtR s fr kd w) .ret a' w' → Q .ret a' w'))
    (i : Nat) (sl : Bool) (nm vl : ByteArray) (q : Int) (tn : ByteArray) (at_ : List (ByteArray × ByteArray)) (v : Value)
    (hin : i ≤ n) (hg : n - i ≤ gk) (hlt : i < n) (HRT : Hid (RT s w wr kd i ⟨5, sl, nm, vl, q, tn, at_⟩ v M))
    (u14 u15 u16 u20 u21 u22 u23 u24 u25 u26 u27 u28 u29 u30 u31 u32 u33 u34 u35 u36 u37 u38 u39 u40 u41 u42 u43 u44 u45 u46 u47 u48 u49 u50 u51 u52 u53 u54 u55 u56 u57 u58 u59 u60 u61 u62 u63 u64 u65 u66 u67 u68 u69 u70 u71 u72 u73 u74 u75 u76 u77 u78 u79 u80 u81 u82 u83 u84 u85 u86 u87 u88 u89 u90 u91 u92 u93 u94 u95 u96 u97 u98 u99 u100 u101 u102 u103 u104 u105 u106 u107 u108 u109 u110 u111 u112 u113 u114 u115 u116 u117 u118 u119 u120 u121 u122 u123 u124 u125 u126 u127 u128 u129 u130 u131 u132 u133 u134 u135 u136 u137 u138 u139 u140 u141 u142 u143 u144 u145 u146 u147 u148 u149 u150 u151 u152 u153 u154 u155 u156 u157 u158 u159 u160 u161 u162 u163 u164 u165 u166 u167 u168 u169 u170 u171 u172 u173 u174 u175 u176 u177 u178 u179 u180 u181 u182 u183 u184 u185 u186 u187 u188 u189 : Value) :
    Code.wp Tryz.prog rtBody (Exit.then K (Exit.inBlock 0 (Exit.then K2 Q))) ⟨#[.slice (some ⟨b, off, none⟩) n cap, .int .i64 (fr : Nat), .int .i64 kd, undef, undef, undef, .pointer (some ⟨w.heap.size, 0, none⟩), .pointer (some ⟨w.heap.size + 1, 0, none⟩), .int .i64 5, .bool sl, .string nm, .string vl, .int .u8 q, .int .i64 i, u14, u15, u16, .int .i64 kd, .agg #[.int .i64 kd, .int .i64 0, .string ⟨#[]⟩, .slice none 0 0, .bool false, .bool false], .int .i64 (fr : Nat), u20, u21, u22, u23, u24, u25, u26, u27, u28, u29, u30, u31, u32, u33, u34, u35, u36, u37, u38, u39, u40, u41, u42, u43, u44, u45, u46, u47, u48, u49, u50, u51, u52, u53, u54, u55, u56, u57, u58, u59, u60, u61, u62, u63, u64, u65, u66, u67, u68, u69, u70, u71, u72, u73, u74, u75, u76, u77, u78, u79, u80, u81, u82, u83, u84, u85, u86, u87, u88, u89, u90, u91, u92, u93, u94, u95, u96, u97, u98, u99, u100, u101, u102, u103, u104, u105, u106, u107, u108, u109, u110, u111, u112, u113, u114, u115, u116, u117, u118, u119, u120, u121, u122, u123, u124, u125, u126, u127, u128, u129, u130, u131, u132, u133, u134, u135, u136, u137, u138, u139, u140, u141, u142, u143, u144, u145, u146, u147, u148, u149, u150, u151, u152, u153, u154, u155, u156, u157, u158, u159, u160, u161, u162, u163, u164, u165, u166, u167, u168, u169, u170, u171, u172, u173, u174, u175, u176, u177, u178, u179, u180, u181, u182, u183, u184, u185, u186, u187, u188, u189, undef, undef, undef, undef, undef, undef, undef, undef, undef, undef, undef, undef, undef, undef], []⟩ wr := by
  conv => arg 2; whnf
  unfold rtI at hJ
  obtain ⟨i0, hi0, hz0, hz1, hz2⟩ := info_parts info_rattr
  have hlt' : (i : Int) < (n : Int) := by omega
  have his : i < s.size := by have := HN.out; omega
  have hbr := HRT.out.bel
  have hzr : Lib.Bytes wr b off s := Bytes.keepAt HZ.out fun j => World.cell?_of_block (hbr.block b hbB)
  have hcell := bytes_cell hzr his
  have hi1 : (i : Int) + 1 ≤ 9223372036854775807 := by omega
  have hsl : ∀ W, (Instr.slice 22 (.slice (some ⟨b, off, none⟩) n cap) (some (.int .i64 i)) (some (.int .i64 ((i : Int) + 1))) none).run Tryz.prog W = .ok (.slice (some ⟨b, off + i, none⟩) 1 (cap - i)) W := fun W => by
    have := slice_row b off n cap i (i + 1) (by omega) (by omega) (by omega) W
    rw [show i + 1 - i = 1 by omega] at this
    simpa using this
  have hcv : (convert 22 9 (.slice (some ⟨b, off + i, none⟩) 1 (cap - i))).run Tryz.prog wr = .ok (.string (at1 s i)) wr :=
    Lib.run_convert_window (P := Tryz.prog) wr 22 5 9 Tryz.underlying22 Tryz.underlying5 Tryz.underlying9 b off s hzr i 1 (cap - i) (by omega)
  have hch : (at1 s i).size = 1 := by unfold at1; rw [ByteArray.size_extract]; omega
  have hcr := byt_nonneg s i
  have hgo := fun st' => fromT_go s kd i ⟨5, sl, nm, vl, q, tn, at_⟩ st' his
  have hstop := fun st' => fromT_stop s kd i ⟨5, sl, nm, vl, q, tn, at_⟩ st' his
  rw [HRT.out.go] at hgo hstop
  generalize at1 s i = ch at *
  generalize byt s i = c at *
  have HGO := hid hgo
  have HSTOP := hid hstop
  have hlow := fun W => rlower_any ch (by omega) W
  have HLOW := hid hlow
  have HCH := hid hch
  have g2 := HRT.out.blk.cell 2
  have g3 := HRT.out.blk.cell 3
  have frg := HRT.out.blk.frozen
  simp only [rfC, List.getElem?_toArray, List.getElem?_cons_zero, List.getElem?_cons_succ] at g2 g3
  have hbl : ∀ W, Calls Tryz.prog 69 #[.int .u8 c] W fun e w' => e = .returned (.bool (blankB c)) ∧ w' = W := fun W => refblank_any c W
  have HBL := hid hbl
  clear hbr hzr hgo hstop hlow hch hbl hcr
  have tsz := HRT.out.sz
  simp only at tsz
  have TSZ := hid tsz
  clear tsz
  by_cases h62 : c = 62
  · subst h62
    rw [show blankB 62 = false from rfl] at HBL
    have HE := hid (HSTOP.out ⟨1, false, nm, vl, q, tn, (at_ ++ [(nm, vl)])⟩ (by unfold stepT; first | (simp; done) | simp [show blankB 62 = false from rfl]))
    have c0 := HRT.out.blk.cell 0
    have r0 := HRT.out.res.cell 0
    have c1 := HRT.out.blk.cell 1
    have r1 := HRT.out.res.cell 1
    have c2 := HRT.out.blk.cell 2
    have r2 := HRT.out.res.cell 2
    have c3 := HRT.out.blk.cell 3
    have r3 := HRT.out.res.cell 3
    have c4 := HRT.out.blk.cell 4
    have r4 := HRT.out.res.cell 4
    have c5 := HRT.out.blk.cell 5
    have r5 := HRT.out.res.cell 5
    have frr := HRT.out.res.frozen
    simp only [rfC, tag0, List.getElem?_toArray, List.getElem?_cons_zero, List.getElem?_cons_succ] at c0 c1 c2 c3 c4 c5 r0 r1 r2 r3 r4 r5
    have hvs := owns_slice HRT.out.own
    obtain ⟨A0, cp0, rfl⟩ := hvs
    clear c0 c1 c2 c3 c4 c5 r0 r1 r2 r3 r4 r5 frr
    go_wp2_with (first | (go_at_call 69; refine (HBL.out _).mono ?_; rintro e w' ⟨rfl, hw'⟩; obtain rfl : wr = w' := hw'.symm) | (at_builtin; go_must (refine wpList_append_any _ rfl (.tmp 156) (.tmp 160) 78 rfl (w.heap.size + 2) 162 i0 (.agg #[.string ⟨#[]⟩, .string ⟨#[]⟩]) 2 32 Tryz.underlying78 hi0 hz0 hz1 hz2 rfl (by decide) _ at_.length (atCells at_) rfl (HRT.out.own.alloc _) _ (some ⟨wr.heap.size, 0, none⟩) 1 1 [.string nm, .string vl] rfl (reads_blk2 (Blk.new wr _ _)) (by simp [Value.oneCell']) (by have := TSZ.out; unfold maxLen; omega) (by have := TSZ.out; omega) (by have := HRT.out.blk.lt; simp; omega) ?_); intro v' w2 ho2 hg2 hl2; obtain ⟨A2, c2, rfl⟩ := owns_slice ho2; have hv2 := own_ge HRT.out.own; have hblk2 := (HRT.out.blk.alloc _).grown hg2 (fun e => by have := hv2 _ e.symm; omega); have hres2 := (HRT.out.res.alloc _).grown hg2 (fun e => by have := hv2 _ e.symm; omega); have k0 := hblk2.cell 0; have j0 := hres2.cell 0; have k1 := hblk2.cell 1; have j1 := hres2.cell 1; have k2 := hblk2.cell 2; have j2 := hres2.cell 2; have k3 := hblk2.cell 3; have j3 := hres2.cell 3; have k4 := hblk2.cell 4; have j4 := hres2.cell 4; have k5 := hblk2.cell 5; have j5 := hres2.cell 5; have frk := hblk2.frozen; have frj := hres2.frozen; simp only [rfC, tag0, List.getElem?_toArray, List.getElem?_cons_zero, List.getElem?_cons_succ] at k0 k1 k2 k3 k4 k5 j0 j1 j2 j3 j4 j5; have HO2 := hid ho2; have HG2 := hid hg2; clear ho2 hg2 hl2 hv2 hblk2 hres2))
    have HFIN := hid ((HRT.out.app (k' := 1) (sl' := false) (nm' := nm) (vl' := vl) HO2.out HG2.out rfl (by have := TSZ.out; have := HCH.out; first | exact Nat.zero_le _ | omega | (rw [ByteArray.size_append]; omega) | (rw [lowerB_size]; omega) | (rw [ByteArray.size_append, lowerB_size]; omega)) (by have := TSZ.out; have := HCH.out; first | exact Nat.zero_le _ | omega | (rw [ByteArray.size_append]; omega) | (rw [lowerB_size]; omega) | (rw [ByteArray.size_append, lowerB_size]; omega))).ret (i + 1) false ⟨kd, i + 1, tn, (at_ ++ [(nm, vl)]), false, true⟩ rfl)
    (try simp only [Exit.inBlock, Exit.then])
    refine HQR.out _ _ (bodyPost_ret (results_cell_row rfl _ _ w.heap.size _ _ _ _ rfl HFIN.out.1 Tryz.underlying80 rfl (by kernel_rfl)) rfl ?_)
    unfold rtR
    rw [HM.out, HE.out]
    exact ⟨_, rfl, HFIN.out.2.1, HFIN.out.2.2⟩
  cases hblc : blankB c
  case true =>
    rw [hblc] at HBL
    have nE : c ≠ 62 := h62
    have bE : (c == 62) = false := by simpa using nE
    have iE : (c != 62) = true := by simpa using nE
    have HE := hid (HGO.out ⟨1, false, nm, vl, q, tn, (at_ ++ [(nm, vl)])⟩ (by unfold stepT; first | (simp; done) | (simp [hblc]; done) | simp [hblc, nE]))
    clear nE hblc h62
    go_wp2_with (first | (go_at_call 69; refine (HBL.out _).mono ?_; rintro e w' ⟨rfl, hw'⟩; obtain rfl : wr = w' := hw'.symm) | (go_at_call 68; refine (HLOW.out _).mono ?_; rintro e w' ⟨rfl, hb'⟩) | (at_builtin; go_must (refine wpList_append_any _ rfl (.tmp 156) (.tmp 160) 78 rfl (w.heap.size + 2) 162 i0 (.agg #[.string ⟨#[]⟩, .string ⟨#[]⟩]) 2 32 Tryz.underlying78 hi0 hz0 hz1 hz2 rfl (by decide) v at_.length (atCells at_) rfl (HRT.out.own.alloc _) _ (some ⟨wr.heap.size, 0, none⟩) 1 1 [.string nm, .string vl] rfl (reads_blk2 (Blk.new wr _ _)) (by simp [Value.oneCell']) (by have := TSZ.out; unfold maxLen; omega) (by have := TSZ.out; omega) (by have := HRT.out.blk.lt; simp; omega) ?_); intro v' w2 ho2 hg2 hl2; obtain ⟨A2, c2, rfl⟩ := owns_slice ho2; have hv2 := own_ge HRT.out.own; have hblk2 := (HRT.out.blk.alloc _).grown hg2 (fun e => by have := hv2 _ e.symm; omega); have k3 := hblk2.cell 3; have frk := hblk2.frozen; simp only [rfC, List.getElem?_toArray, List.getElem?_cons_zero, List.getElem?_cons_succ] at k3; have HO2 := hid ho2; have HG2 := hid hg2; clear ho2 hg2 hl2 hv2 hblk2))
    go_roundg (n - (i + 1))
    case measure => omega
    case rel => exact ⟨i + 1, 1, 1, false, nm, vl, q, tn, (at_ ++ [(nm, vl)]), _, rfl, rfl, rfl, rfl, rfl, rfl, rfl, by omega, Nat.le_refl _, by decide, HRT.out.app HO2.out HG2.out HE.out (by have := TSZ.out; have := HCH.out; first | exact Nat.zero_le _ | omega | (rw [ByteArray.size_append]; omega) | (rw [lowerB_size]; omega) | (rw [ByteArray.size_append, lowerB_size]; omega)) (by have := TSZ.out; have := HCH.out; first | exact Nat.zero_le _ | omega | (rw [ByteArray.size_append]; omega) | (rw [lowerB_size]; omega) | (rw [ByteArray.size_append, lowerB_size]; omega))⟩
  case false =>
    rw [hblc] at HBL
    have nE : c ≠ 62 := h62
    have bE : (c == 62) = false := by simpa using nE
    have iE : (c != 62) = true := by simpa using nE
    have HE := hid (HGO.out ⟨5, sl, nm, (vl ++ ch), q, tn, at_⟩ (by unfold stepT; first | (simp; done) | (simp [hblc]; done) | simp [hblc, nE]))
    have hlen : ¬ (vl.size + ch.size > 9223372036854775807) := by rw [HCH.out]; have := TSZ.out.2.2.1; omega
    clear nE hblc h62
    go_wp2_with (first | (go_at_call 69; refine (HBL.out _).mono ?_; rintro e w' ⟨rfl, hw'⟩; obtain rfl : wr = w' := hw'.symm))
    go_roundg (n - (i + 1))
    case measure => omega
    case rel => exact ⟨i + 1, 5, 5, sl, nm, (vl ++ ch), q, tn, at_, v, rfl, rfl, rfl, rfl, rfl, rfl, rfl, by omega, Nat.le_refl _, by decide, HRT.out.same HE.out (by have := TSZ.out; have := HCH.out; first | exact Nat.zero_le _ | omega | (rw [ByteArray.size_append]; omega) | (rw [lowerB_size]; omega) | (rw [ByteArray.size_append, lowerB_size]; omega)) (by have := TSZ.out; have := HCH.out; first | exact Nat.zero_le _ | omega | (rw [ByteArray.size_append]; omega) | (rw [lowerB_size]; omega) | (rw [ByteArray.size_append, lowerB_size]; omega))⟩

end Go.Proofs.YtpnbkecchfhimaaGreatDoor

/- out of TagRT7 -/
namespace Go.Proofs.YtpnbkecchfhimaaGreatDoor
set_option maxRecDepth 100000
open Go.RowKit
open Go.Lib (hid)
set_option linter.unusedVariables false
set_option maxRecDepth 1000000 in
set_option maxHeartbeats 40000000 in
theorem rt_case6 (b off n cap fr : Nat) (kd : Int) (s : ByteArray) (hi : fr ≤ n) (hcap : n ≤ cap) (hc63 : cap ≤ 9223372036854775807)
    (hm : n ≤ 1048576) (w : World) (hbB : b < w.heap.size) (HZ : Hid (Lib.Bytes w b off s)) (HN : Hid (n = s.size)) (M : Mk) (HM : Hid (refNamed s fr kd = M))
    (gk : Nat) (wr : World) (J : Nat → Act → World → Prop) (K : Act → World → Prop) (K2 : Act → World → Prop) (Q : Exit → Act → World → Prop)
    (hJ : ∀ k' a' w', rtI b off n cap fr kd s w M k' a' w' → J k' a' w') (hK : ∀ a' w', Handed J gk a' w' → K a' w')
    (HQR : Hid (∀ a' w', bodyPost Tryz.prog Tryz.f73 (rtR s fr kd w) .ret a' w' → Q .ret a' w'))
    (i : Nat) (sl : Bool) (nm vl : ByteArray) (q : Int) (tn : ByteArray) (at_ : List (ByteArray × ByteArray)) (v : Value)
    (hin : i ≤ n) (hg : n - i ≤ gk) (hlt : i < n) (HRT : Hid (RT s w wr kd i ⟨6, sl, nm, vl, q, tn, at_⟩ v M))
    (u14 u15 u16 u20 u21 u22 u23 u24 u25 u26 u27 u28 u29 u30 u31 u32 u33 u34 u35 u36 u37 u38 u39 u40 u41 u42 u43 u44 u45 u46 u47 u48 u49 u50 u51 u52 u53 u54 u55 u56 u57 u58 u59 u60 u61 u62 u63 u64 u65 u66 u67 u68 u69 u70 u71 u72 u73 u74 u75 u76 u77 u78 u79 u80 u81 u82 u83 u84 u85 u86 u87 u88 u89 u90 u91 u92 u93 u94 u95 u96 u97 u98 u99 u100 u101 u102 u103 u104 u105 u106 u107 u108 u109 u110 u111 u112 u113 u114 u115 u116 u117 u118 u119 u120 u121 u122 u123 u124 u125 u126 u127 u128 u129 u130 u131 u132 u133 u134 u135 u136 u137 u138 u139 u140 u141 u142 u143 u144 u145 u146 u147 u148 u149 u150 u151 u152 u153 u154 u155 u156 u157 u158 u159 u160 u161 u162 u163 u164 u165 u166 u167 u168 u169 u170 u171 u172 u173 u174 u175 u176 u177 u178 u179 u180 u181 u182 u183 u184 u185 u186 u187 u188 u189 : Value) :
    Code.wp Tryz.prog rtBody (Exit.then K (Exit.inBlock 0 (Exit.then K2 Q))) ⟨#[.slice (some ⟨b, off, none⟩) n cap, .int .i64 (fr : Nat), .int .i64 kd, undef, undef, undef, .pointer (some ⟨w.heap.size, 0, none⟩), .pointer (some ⟨w.heap.size + 1, 0, none⟩), .int .i64 6, .bool sl, .string nm, .string vl, .int .u8 q, .int .i64 i, u14, u15, u16, .int .i64 kd, .agg #[.int .i64 kd, .int .i64 0, .string ⟨#[]⟩, .slice none 0 0, .bool false, .bool false], .int .i64 (fr : Nat), u20, u21, u22, u23, u24, u25, u26, u27, u28, u29, u30, u31, u32, u33, u34, u35, u36, u37, u38, u39, u40, u41, u42, u43, u44, u45, u46, u47, u48, u49, u50, u51, u52, u53, u54, u55, u56, u57, u58, u59, u60, u61, u62, u63, u64, u65, u66, u67, u68, u69, u70, u71, u72, u73, u74, u75, u76, u77, u78, u79, u80, u81, u82, u83, u84, u85, u86, u87, u88, u89, u90, u91, u92, u93, u94, u95, u96, u97, u98, u99, u100, u101, u102, u103, u104, u105, u106, u107, u108, u109, u110, u111, u112, u113, u114, u115, u116, u117, u118, u119, u120, u121, u122, u123, u124, u125, u126, u127, u128, u129, u130, u131, u132, u133, u134, u135, u136, u137, u138, u139, u140, u141, u142, u143, u144, u145, u146, u147, u148, u149, u150, u151, u152, u153, u154, u155, u156, u157, u158, u159, u160, u161, u162, u163, u164, u165, u166, u167, u168, u169, u170, u171, u172, u173, u174, u175, u176, u177, u178, u179, u180, u181, u182, u183, u184, u185, u186, u187, u188, u189, undef, undef, undef, undef, undef, undef, undef, undef, undef, undef, undef, undef, undef, undef], []⟩ wr := by
  conv => arg 2; whnf
  unfold rtI at hJ
  obtain ⟨i0, hi0, hz0, hz1, hz2⟩ := info_parts info_rattr
  have hlt' : (i : Int) < (n : Int) := by omega
  have his : i < s.size := by have := HN.out; omega
  have hbr := HRT.out.bel
  have hzr : Lib.Bytes wr b off s := Bytes.keepAt HZ.out fun j => World.cell?_of_block (hbr.block b hbB)
  have hcell := bytes_cell hzr his
  have hi1 : (i : Int) + 1 ≤ 9223372036854775807 := by omega
  have hsl : ∀ W, (Instr.slice 22 (.slice (some ⟨b, off, none⟩) n cap) (some (.int .i64 i)) (some (.int .i64 ((i : Int) + 1))) none).run Tryz.prog W = .ok (.slice (some ⟨b, off + i, none⟩) 1 (cap - i)) W := fun W => by
    have := slice_row b off n cap i (i + 1) (by omega) (by omega) (by omega) W
    rw [show i + 1 - i = 1 by omega] at this
    simpa using this
  have hcv : (convert 22 9 (.slice (some ⟨b, off + i, none⟩) 1 (cap - i))).run Tryz.prog wr = .ok (.string (at1 s i)) wr :=
    Lib.run_convert_window (P := Tryz.prog) wr 22 5 9 Tryz.underlying22 Tryz.underlying5 Tryz.underlying9 b off s hzr i 1 (cap - i) (by omega)
  have hch : (at1 s i).size = 1 := by unfold at1; rw [ByteArray.size_extract]; omega
  have hcr := byt_nonneg s i
  have hgo := fun st' => fromT_go s kd i ⟨6, sl, nm, vl, q, tn, at_⟩ st' his
  have hstop := fun st' => fromT_stop s kd i ⟨6, sl, nm, vl, q, tn, at_⟩ st' his
  rw [HRT.out.go] at hgo hstop
  generalize at1 s i = ch at *
  generalize byt s i = c at *
  have HGO := hid hgo
  have HSTOP := hid hstop
  have hlow := fun W => rlower_any ch (by omega) W
  have HLOW := hid hlow
  have HCH := hid hch
  have g2 := HRT.out.blk.cell 2
  have g3 := HRT.out.blk.cell 3
  have frg := HRT.out.blk.frozen
  simp only [rfC, List.getElem?_toArray, List.getElem?_cons_zero, List.getElem?_cons_succ] at g2 g3
  have hbl : ∀ W, Calls Tryz.prog 69 #[.int .u8 c] W fun e w' => e = .returned (.bool (blankB c)) ∧ w' = W := fun W => refblank_any c W
  have HBL := hid hbl
  clear hbr hzr hgo hstop hlow hch hbl hcr
  have tsz := HRT.out.sz
  simp only at tsz
  have TSZ := hid tsz
  clear tsz
  by_cases hq : c = q
  · subst hq
    have HE := hid (HGO.out ⟨1, false, nm, vl, c, tn, (at_ ++ [(nm, vl)])⟩ (by unfold stepT; first | (simp; done)))
    go_wp2_with (first | (at_builtin; go_must (refine wpList_append_any _ rfl (.tmp 172) (.tmp 176) 78 rfl (w.heap.size + 2) 162 i0 (.agg #[.string ⟨#[]⟩, .string ⟨#[]⟩]) 2 32 Tryz.underlying78 hi0 hz0 hz1 hz2 rfl (by decide) v at_.length (atCells at_) rfl (HRT.out.own.alloc _) _ (some ⟨wr.heap.size, 0, none⟩) 1 1 [.string nm, .string vl] rfl (reads_blk2 (Blk.new wr _ _)) (by simp [Value.oneCell']) (by have := TSZ.out; unfold maxLen; omega) (by have := TSZ.out; omega) (by have := HRT.out.blk.lt; simp; omega) ?_); intro v' w2 ho2 hg2 hl2; obtain ⟨A2, c2, rfl⟩ := owns_slice ho2; have hv2 := own_ge HRT.out.own; have hblk2 := (HRT.out.blk.alloc _).grown hg2 (fun e => by have := hv2 _ e.symm; omega); have k3 := hblk2.cell 3; have frk := hblk2.frozen; simp only [rfC, List.getElem?_toArray, List.getElem?_cons_zero, List.getElem?_cons_succ] at k3; have HO2 := hid ho2; have HG2 := hid hg2; clear ho2 hg2 hl2 hv2 hblk2))
    go_roundg (n - (i + 1))
    case measure => omega
    case rel => exact ⟨i + 1, 1, 1, false, nm, vl, c, tn, (at_ ++ [(nm, vl)]), _, rfl, rfl, rfl, rfl, rfl, rfl, rfl, by omega, Nat.le_refl _, by decide, HRT.out.app HO2.out HG2.out HE.out (by have := TSZ.out; have := HCH.out; first | exact Nat.zero_le _ | omega | (rw [ByteArray.size_append]; omega) | (rw [lowerB_size]; omega) | (rw [ByteArray.size_append, lowerB_size]; omega)) (by have := TSZ.out; have := HCH.out; first | exact Nat.zero_le _ | omega | (rw [ByteArray.size_append]; omega) | (rw [lowerB_size]; omega) | (rw [ByteArray.size_append, lowerB_size]; omega))⟩
  have HE := hid (HGO.out ⟨6, sl, nm, (vl ++ ch), q, tn, at_⟩ (by unfold stepT; first | (simp; done) | simp [hq]))
  have bq : (c == q) = false := by simpa using hq
  have hlen : ¬ (vl.size + ch.size > 9223372036854775807) := by rw [HCH.out]; have := TSZ.out.2.2.1; omega
  clear hq
  go_wp2_with fail
  go_roundg (n - (i + 1))
  case measure => omega
  case rel => exact ⟨i + 1, 6, 6, sl, nm, (vl ++ ch), q, tn, at_, v, rfl, rfl, rfl, rfl, rfl, rfl, rfl, by omega, Nat.le_refl _, by decide, HRT.out.same HE.out (by have := TSZ.out; have := HCH.out; first | exact Nat.zero_le _ | omega | (rw [ByteArray.size_append]; omega) | (rw [lowerB_size]; omega) | (rw [ByteArray.size_append, lowerB_size]; omega)) (by have := TSZ.out; have := HCH.out; first | exact Nat.zero_le _ | omega | (rw [ByteArray.size_append]; omega) | (rw [lowerB_size]; omega) | (rw [ByteArray.size_append, lowerB_size]; omega))⟩

end Go.Proofs.YtpnbkecchfhimaaGreatDoor

/- out of TagRT -/
namespace Go.Proofs.YtpnbkecchfhimaaGreatDoor
set_option maxRecDepth 100000
open Go.RowKit
open Go.Lib (hid)
set_option linter.unusedVariables false
set_option maxRecDepth 1000000 in
set_option maxHeartbeats 40000000 in
theorem reftag_any (b off n cap fr : Nat) (kd : Int) (s : ByteArray) (hn : n = s.size) (hi : fr ≤ n) (hcap : n ≤ cap) (hc63 : cap ≤ 9223372036854775807)
    (hm : n ≤ 1048576) (w : World) (hbB : b < w.heap.size) (hz : Lib.Bytes w b off s) :
    Calls Tryz.prog 73 #[.slice (some ⟨b, off, none⟩) n cap, .int .i64 fr, .int .i64 kd] w fun e w' =>
      ∃ v, e = .returned ((refNamed s fr kd).val v) ∧ Below w.heap.size w w' ∧ w'.ownsRow w.heap.size 162 2 v (refNamed s fr kd).attrs.length (atCells (refNamed s fr kd).attrs) := by
  have HZ := hid hz
  have HN := hid hn
  obtain ⟨i0, hi0, hz0, hz1, hz2⟩ := info_parts info_rattr
  clear hz hn
  go_enter Tryz.func73, Tryz.ntmps73
  go_wp2_with fail
  have hb0 := ((Below.refl w.heap.size w).alloc (Nat.le_refl _) (.cells tag0 80)).alloc (by simp) (.cells (rfC kd ⟨#[]⟩ (.slice none 0 0)) 80)
  have hr0 := (Blk.new w 80 tag0).alloc (.cells (rfC kd ⟨#[]⟩ (.slice none 0 0)) 80)
  have hq0 := Blk.new (w.alloc (.cells tag0 80)) 80 (rfC kd ⟨#[]⟩ (.slice none 0 0))
  rw [show (w.alloc (.cells tag0 80)).heap.size = w.heap.size + 1 by simp] at hq0
  have hs0 : ((w.alloc (.cells tag0 80)).alloc (.cells (rfC kd ⟨#[]⟩ (.slice none 0 0)) 80)).heap.size = w.heap.size + 2 := by simp
  simp only [tag0, rfC] at hb0 hr0 hq0 hs0
  generalize ((w.alloc (.cells #[.int .i64 0, .int .i64 0, .string ⟨#[]⟩, .slice none 0 0, .bool false, .bool false] 80)).alloc (.cells #[.int .i64 kd, .int .i64 0, .string ⟨#[]⟩, .slice none 0 0, .bool false, .bool false] 80)) = w0 at *
  have HRT0 : Hid (RT s w w0 kd fr st0 (.slice none 0 0) (refNamed s fr kd)) := ⟨⟨Nat.zero_le _, Nat.zero_le _, Nat.zero_le _, Nat.zero_le _⟩, rfl, hb0, hq0, hr0, rfl, .inl ⟨rfl, rfl⟩⟩
  have HS0 := hid hs0
  clear hb0 hr0 hq0 hs0
  generalize hM : refNamed s fr kd = M at *
  have HM := hid hM
  clear hM
  go_loopg [8, 9, 10, 11, 12, 13] n (fun kx s8 s9 s10 s11 s12 s13 wr => ∃ (i k : Nat) (z : Int) (sl : Bool) (nm vl : ByteArray) (q : Int) (tn : ByteArray) (at_ : List (ByteArray × ByteArray)) (v : Value), s8 = .int .i64 z ∧ z = (k : Int) ∧ s9 = .bool sl ∧ s10 = .string nm ∧ s11 = .string vl ∧ s12 = .int .u8 q ∧ s13 = .int .i64 i ∧ i ≤ n ∧ n - i ≤ kx ∧ k ≤ 6 ∧ Hid (RT s w wr kd i ⟨k, sl, nm, vl, q, tn, at_⟩ v M))
  case atStart => exact ⟨fr, 0, 0, false, ⟨#[]⟩, ⟨#[]⟩, 0, ⟨#[]⟩, [], .slice none 0 0, rfl, rfl, rfl, rfl, rfl, rfl, rfl, hi, by omega, by omega, HRT0⟩
  case round =>
    rename_i J K hJ hK
    obtain ⟨i, k, z, sl, nm, vl, q, tn, at_, v, rfl, hzk, rfl, rfl, rfl, rfl, rfl, hin, hg, hk, HRT⟩ := hrel
    by_cases hlt : i < n
    · have hks : z = 0 ∨ z = 1 ∨ z = 2 ∨ z = 3 ∨ z = 4 ∨ z = 5 ∨ z = 6 := by omega
      rcases hks with rfl | rfl | rfl | rfl | rfl | rfl | rfl
      · obtain rfl : k = 0 := by omega
        exact rt_case0 b off n cap fr kd s hi hcap hc63 hm w hbB HZ HN M HM gk wr J K _ hJ hK (hid fun _ _ h => h) i sl nm vl q tn at_ v hin hg hlt HRT _ _ _ _ _ _ _ _ _ _ _ _ _ _ _ _ _ _ _ _ _ _ _ _ _ _ _ _ _ _ _ _ _ _ _ _ _ _ _ _ _ _ _ _ _ _ _ _ _ _ _ _ _ _ _ _ _ _ _ _ _ _ _ _ _ _ _ _ _ _ _ _ _ _ _ _ _ _ _ _ _ _ _ _ _ _ _ _ _ _ _ _ _ _ _ _ _ _ _ _ _ _ _ _ _ _ _ _ _ _ _ _ _ _ _ _ _ _ _ _ _ _ _ _ _ _ _ _ _ _ _ _ _ _ _ _ _ _ _ _ _ _ _ _ _ _ _ _ _ _ _ _ _ _ _ _ _ _ _ _ _ _ _ _ _ _ _ _ _ _ _ _ _
      · obtain rfl : k = 1 := by omega
        exact rt_case1 b off n cap fr kd s hi hcap hc63 hm w hbB HZ HN M HM gk wr J K _ _ hJ hK (hid fun _ _ h => h) i sl nm vl q tn at_ v hin hg hlt HRT _ _ _ _ _ _ _ _ _ _ _ _ _ _ _ _ _ _ _ _ _ _ _ _ _ _ _ _ _ _ _ _ _ _ _ _ _ _ _ _ _ _ _ _ _ _ _ _ _ _ _ _ _ _ _ _ _ _ _ _ _ _ _ _ _ _ _ _ _ _ _ _ _ _ _ _ _ _ _ _ _ _ _ _ _ _ _ _ _ _ _ _ _ _ _ _ _ _ _ _ _ _ _ _ _ _ _ _ _ _ _ _ _ _ _ _ _ _ _ _ _ _ _ _ _ _ _ _ _ _ _ _ _ _ _ _ _ _ _ _ _ _ _ _ _ _ _ _ _ _ _ _ _ _ _ _ _ _ _ _ _ _ _ _ _ _ _ _ _ _ _ _ _
      · obtain rfl : k = 2 := by omega
        exact rt_case2 b off n cap fr kd s hi hcap hc63 hm w hbB HZ HN M HM gk wr J K _ _ hJ hK (hid fun _ _ h => h) i sl nm vl q tn at_ v hin hg hlt HRT _ _ _ _ _ _ _ _ _ _ _ _ _ _ _ _ _ _ _ _ _ _ _ _ _ _ _ _ _ _ _ _ _ _ _ _ _ _ _ _ _ _ _ _ _ _ _ _ _ _ _ _ _ _ _ _ _ _ _ _ _ _ _ _ _ _ _ _ _ _ _ _ _ _ _ _ _ _ _ _ _ _ _ _ _ _ _ _ _ _ _ _ _ _ _ _ _ _ _ _ _ _ _ _ _ _ _ _ _ _ _ _ _ _ _ _ _ _ _ _ _ _ _ _ _ _ _ _ _ _ _ _ _ _ _ _ _ _ _ _ _ _ _ _ _ _ _ _ _ _ _ _ _ _ _ _ _ _ _ _ _ _ _ _ _ _ _ _ _ _ _ _ _
      · obtain rfl : k = 3 := by omega
        exact rt_case3 b off n cap fr kd s hi hcap hc63 hm w hbB HZ HN M HM gk wr J K _ _ hJ hK (hid fun _ _ h => h) i sl nm vl q tn at_ v hin hg hlt HRT _ _ _ _ _ _ _ _ _ _ _ _ _ _ _ _ _ _ _ _ _ _ _ _ _ _ _ _ _ _ _ _ _ _ _ _ _ _ _ _ _ _ _ _ _ _ _ _ _ _ _ _ _ _ _ _ _ _ _ _ _ _ _ _ _ _ _ _ _ _ _ _ _ _ _ _ _ _ _ _ _ _ _ _ _ _ _ _ _ _ _ _ _ _ _ _ _ _ _ _ _ _ _ _ _ _ _ _ _ _ _ _ _ _ _ _ _ _ _ _ _ _ _ _ _ _ _ _ _ _ _ _ _ _ _ _ _ _ _ _ _ _ _ _ _ _ _ _ _ _ _ _ _ _ _ _ _ _ _ _ _ _ _ _ _ _ _ _ _ _ _ _ _
      · obtain rfl : k = 4 := by omega
        exact rt_case4 b off n cap fr kd s hi hcap hc63 hm w hbB HZ HN M HM gk wr J K _ _ hJ hK (hid fun _ _ h => h) i sl nm vl q tn at_ v hin hg hlt HRT _ _ _ _ _ _ _ _ _ _ _ _ _ _ _ _ _ _ _ _ _ _ _ _ _ _ _ _ _ _ _ _ _ _ _ _ _ _ _ _ _ _ _ _ _ _ _ _ _ _ _ _ _ _ _ _ _ _ _ _ _ _ _ _ _ _ _ _ _ _ _ _ _ _ _ _ _ _ _ _ _ _ _ _ _ _ _ _ _ _ _ _ _ _ _ _ _ _ _ _ _ _ _ _ _ _ _ _ _ _ _ _ _ _ _ _ _ _ _ _ _ _ _ _ _ _ _ _ _ _ _ _ _ _ _ _ _ _ _ _ _ _ _ _ _ _ _ _ _ _ _ _ _ _ _ _ _ _ _ _ _ _ _ _ _ _ _ _ _ _ _ _ _
      · obtain rfl : k = 5 := by omega
        exact rt_case5 b off n cap fr kd s hi hcap hc63 hm w hbB HZ HN M HM gk wr J K _ _ hJ hK (hid fun _ _ h => h) i sl nm vl q tn at_ v hin hg hlt HRT _ _ _ _ _ _ _ _ _ _ _ _ _ _ _ _ _ _ _ _ _ _ _ _ _ _ _ _ _ _ _ _ _ _ _ _ _ _ _ _ _ _ _ _ _ _ _ _ _ _ _ _ _ _ _ _ _ _ _ _ _ _ _ _ _ _ _ _ _ _ _ _ _ _ _ _ _ _ _ _ _ _ _ _ _ _ _ _ _ _ _ _ _ _ _ _ _ _ _ _ _ _ _ _ _ _ _ _ _ _ _ _ _ _ _ _ _ _ _ _ _ _ _ _ _ _ _ _ _ _ _ _ _ _ _ _ _ _ _ _ _ _ _ _ _ _ _ _ _ _ _ _ _ _ _ _ _ _ _ _ _ _ _ _ _ _ _ _ _ _ _ _ _
      · obtain rfl : k = 6 := by omega
        exact rt_case6 b off n cap fr kd s hi hcap hc63 hm w hbB HZ HN M HM gk wr J K _ _ hJ hK (hid fun _ _ h => h) i sl nm vl q tn at_ v hin hg hlt HRT _ _ _ _ _ _ _ _ _ _ _ _ _ _ _ _ _ _ _ _ _ _ _ _ _ _ _ _ _ _ _ _ _ _ _ _ _ _ _ _ _ _ _ _ _ _ _ _ _ _ _ _ _ _ _ _ _ _ _ _ _ _ _ _ _ _ _ _ _ _ _ _ _ _ _ _ _ _ _ _ _ _ _ _ _ _ _ _ _ _ _ _ _ _ _ _ _ _ _ _ _ _ _ _ _ _ _ _ _ _ _ _ _ _ _ _ _ _ _ _ _ _ _ _ _ _ _ _ _ _ _ _ _ _ _ _ _ _ _ _ _ _ _ _ _ _ _ _ _ _ _ _ _ _ _ _ _ _ _ _ _ _ _ _ _ _ _ _ _ _ _ _ _
    · skip
      have hlt' : ¬ (i : Int) < (n : Int) := by omega
      obtain rfl : i = n := by omega
      have hE := fromT_end s kd i ⟨k, sl, nm, vl, q, tn, at_⟩ (by have := HN.out; omega)
      rw [HRT.out.go, ← HN.out] at hE
      have HE := hid hE
      have tsz := HRT.out.sz
      simp only at tsz
      have TSZ := hid tsz
      have HCH : Hid ((1 : Nat) = 1) := rfl
      have hvs := owns_slice HRT.out.own
      obtain ⟨A0, cp0, rfl⟩ := hvs
      have c0 := HRT.out.blk.cell 0
      have r0 := HRT.out.res.cell 0
      have c1 := HRT.out.blk.cell 1
      have r1 := HRT.out.res.cell 1
      have c2 := HRT.out.blk.cell 2
      have r2 := HRT.out.res.cell 2
      have c3 := HRT.out.blk.cell 3
      have r3 := HRT.out.res.cell 3
      have c4 := HRT.out.blk.cell 4
      have r4 := HRT.out.res.cell 4
      have c5 := HRT.out.blk.cell 5
      have r5 := HRT.out.res.cell 5
      have frg := HRT.out.blk.frozen
      have frr := HRT.out.res.frozen
      simp only [rfC, tag0, List.getElem?_toArray, List.getElem?_cons_zero, List.getElem?_cons_succ] at c0 c1 c2 c3 c4 c5 r0 r1 r2 r3 r4 r5
      clear tsz hE
      by_cases hz2' : (2 : Int) ≤ z
      · have hk2 : 2 ≤ k := by omega
        have HE2 := hid (show M = ⟨kd, i, tn, at_ ++ [(nm, vl)], false, false⟩ by rw [HE.out]; simp only; rw [if_pos hk2])
        clear hzk hk hk2 c0 c1 c2 c4 c5 r0 r1 r2 r3 r4 r5 frr HE
        go_wp2_with (at_builtin; go_must (refine wpList_append_any _ rfl (.tmp 193) (.tmp 197) 78 rfl (w.heap.size + 2) 162 i0 (.agg #[.string ⟨#[]⟩, .string ⟨#[]⟩]) 2 32 Tryz.underlying78 hi0 hz0 hz1 hz2 rfl (by decide) _ at_.length (atCells at_) rfl (HRT.out.own.alloc _) _ (some ⟨wr.heap.size, 0, none⟩) 1 1 [.string nm, .string vl] rfl (reads_blk2 (Blk.new wr _ _)) (by simp [Value.oneCell']) (by have := TSZ.out; unfold maxLen; omega) (by have := TSZ.out; omega) (by have := HRT.out.blk.lt; simp; omega) ?_); intro v' w2 ho2 hg2 hl2; obtain ⟨A2, c2, rfl⟩ := owns_slice ho2; have hv2 := own_ge HRT.out.own; have hblk2 := (HRT.out.blk.alloc _).grown hg2 (fun e => by have := hv2 _ e.symm; omega); have hres2 := (HRT.out.res.alloc _).grown hg2 (fun e => by have := hv2 _ e.symm; omega); have k0 := hblk2.cell 0; have j0 := hres2.cell 0; have k1 := hblk2.cell 1; have j1 := hres2.cell 1; have k2 := hblk2.cell 2; have j2 := hres2.cell 2; have k3 := hblk2.cell 3; have j3 := hres2.cell 3; have k4 := hblk2.cell 4; have j4 := hres2.cell 4; have k5 := hblk2.cell 5; have j5 := hres2.cell 5; have frk := hblk2.frozen; have frj := hres2.frozen; simp only [rfC, tag0, List.getElem?_toArray, List.getElem?_cons_zero, List.getElem?_cons_succ] at k0 k1 k2 k3 k4 k5 j0 j1 j2 j3 j4 j5; have HO2 := hid ho2; have HG2 := hid hg2; clear ho2 hg2 hl2 hv2 hblk2 hres2)
        have HFIN := hid ((HRT.out.app (k' := 1) (sl' := false) (nm' := nm) (vl' := vl) HO2.out HG2.out rfl (by have := TSZ.out; have := HCH.out; first | exact Nat.zero_le _ | omega | (rw [ByteArray.size_append]; omega) | (rw [lowerB_size]; omega) | (rw [ByteArray.size_append, lowerB_size]; omega)) (by have := TSZ.out; have := HCH.out; first | exact Nat.zero_le _ | omega | (rw [ByteArray.size_append]; omega) | (rw [lowerB_size]; omega) | (rw [ByteArray.size_append, lowerB_size]; omega))).ret1 i ⟨kd, i, tn, at_ ++ [(nm, vl)], false, false⟩ rfl)
        (try simp only [Exit.inBlock, Exit.then])
        rw [HM.out, HE2.out]
        exact bodyPost_ret (results_cell_row rfl _ _ w.heap.size _ _ _ _ rfl HFIN.out.1 Tryz.underlying80 rfl (by kernel_rfl)) rfl ⟨_, rfl, HFIN.out.2.1, HFIN.out.2.2⟩
      · have hk2 : ¬ 2 ≤ k := by omega
        have HE2 := hid (show M = ⟨kd, i, tn, at_, false, false⟩ by rw [HE.out]; simp only; rw [if_neg hk2])
        have HFIN := hid (HRT.out.ret1 i ⟨kd, i, tn, at_, false, false⟩ rfl)
        clear hzk hk hk2 HE
        go_wp2_with fail
        (try simp only [Exit.inBlock, Exit.then])
        rw [HM.out, HE2.out]
        exact bodyPost_ret (results_cell_row rfl _ _ w.heap.size _ _ _ _ rfl HFIN.out.1 Tryz.underlying80 rfl (by kernel_rfl)) rfl ⟨_, rfl, HFIN.out.2.1, HFIN.out.2.2⟩

end Go.Proofs.YtpnbkecchfhimaaGreatDoor

/- out of TagRU -/
namespace Go.Proofs.YtpnbkecchfhimaaGreatDoor
set_option maxRecDepth 100000
open Go.RowKit
open Go.Lib (hid)
set_option linter.unusedVariables false

theorem upAt_end (s e : ByteArray) (i : Nat) (h : ¬ i + e.size ≤ s.size) : upAt s e i = none := by
  unfold upAt
  cases hf : s.size + 1 - i with
  | zero => rfl
  | succ f => unfold upGo; rw [if_neg h]
theorem upAt_hit (s e : ByteArray) (i : Nat) (h : i + e.size ≤ s.size) (ho : occ s e i = true) : upAt s e i = some (i + e.size) := by
  unfold upAt
  rw [show s.size + 1 - i = (s.size - i) + 1 by omega]
  unfold upGo
  rw [if_pos h, if_pos ho]
theorem upAt_next (s e : ByteArray) (i : Nat) (h : i + e.size ≤ s.size) (ho : occ s e i = false) : upAt s e i = upAt s e (i + 1) := by
  unfold upAt
  rw [show s.size + 1 - i = (s.size + 1 - (i + 1)) + 1 by omega]
  rw [upGo, if_pos h, if_neg (by rw [ho]; decide)]

set_option maxRecDepth 100000 in
set_option maxHeartbeats 4000000 in
theorem refUpTo_any (b off n cap fr : Nat) (kd : Int) (e s : ByteArray) (hn : n = s.size) (hi : fr ≤ n) (hcap : n ≤ cap) (hc63 : cap ≤ 9223372036854775807) (he : 0 < e.size) (he2 : e.size ≤ 1000)
    (hm : n ≤ 1048576) (w : World) (hbB : b < w.heap.size) (hz : Lib.Bytes w b off s) :
    Calls Tryz.prog 71 #[.slice (some ⟨b, off, none⟩) n cap, .int .i64 fr, .int .i64 kd, .string e] w fun x w' =>
      x = .returned ((upToV s fr kd e).val (.slice none 0 0)) ∧ Below w.heap.size w w' := by
  have HZ := hid hz
  have HN := hid hn
  clear hz hn
  go_enter Tryz.func71, Tryz.ntmps71
  go_wp2_with fail
  have hb0 := (Below.refl w.heap.size w).alloc (Nat.le_refl _) (.cells tag0 80)
  have hr0 := Blk.new w 80 tag0
  simp only [tag0] at hb0 hr0
  generalize w.alloc (.cells #[.int .i64 0, .int .i64 0, .string ⟨#[]⟩, .slice none 0 0, .bool false, .bool false] 80) = w1 at *
  have r0 := hr0.cell 0
  have r1 := hr0.cell 1
  have r2 := hr0.cell 2
  have r3 := hr0.cell 3
  have r4 := hr0.cell 4
  have r5 := hr0.cell 5
  have frr := hr0.frozen
  simp only [List.getElem?_toArray, List.getElem?_cons_zero, List.getElem?_cons_succ] at r0 r1 r2 r3 r4 r5
  have hz1 : Lib.Bytes w1 b off s := Bytes.keepAt HZ.out fun j => World.cell?_of_block (hb0.block b hbB)
  have hfin := fun (z : Nat) (cl : Bool) => ((((((hr0).set_ 0 (.int .i64 kd)).set_ 1 (.int .i64 z)).set_ 2 (.string ⟨#[]⟩)).set_ 3 (.slice none 0 0)).set_ 4 (.bool false)).set_ 5 (.bool cl)
  have hbf := fun (z : Nat) (cl : Bool) => ((((((hb0).setCell (p := ⟨w.heap.size, 0, none⟩) (Nat.le_refl _) (.int .i64 kd)).setCell (p := ⟨w.heap.size, 1, none⟩) (Nat.le_refl _) (.int .i64 z)).setCell (p := ⟨w.heap.size, 2, none⟩) (Nat.le_refl _) (.string ⟨#[]⟩)).setCell (p := ⟨w.heap.size, 3, none⟩) (Nat.le_refl _) (.slice none 0 0)).setCell (p := ⟨w.heap.size, 4, none⟩) (Nat.le_refl _) (.bool false)).setCell (p := ⟨w.heap.size, 5, none⟩) (Nat.le_refl _) (.bool cl)
  have HFIN := hid hfin
  have HBF := hid hbf
  have HZ1 := hid hz1
  clear hb0 hr0 hz1 hfin hbf
  go_loopg [9] n (fun kx s9 wr => ∃ (i : Nat), s9 = .int .i64 i ∧ i ≤ n + 1 ∧ n + 1 - i ≤ kx + 1 ∧ wr = w1 ∧ Hid (upAt s e fr = upAt s e i))
  case atStart => exact ⟨fr, rfl, by omega, by omega, rfl, rfl⟩
  case round =>
    obtain ⟨i, rfl, hin, hg, hw, HU⟩ := hrel
    obtain rfl : w1 = wr := hw.symm
    have hi1 : (i : Int) + (e.size : Int) ≤ 9223372036854775807 := by omega
    have hi2 : (i : Int) + 1 ≤ 9223372036854775807 := by omega
    by_cases hlt : i + e.size ≤ n
    · have hlt' : (i : Int) + (e.size : Int) ≤ (n : Int) := by omega
      have his : i + e.size ≤ s.size := by have := HN.out; omega
      have hsl : ∀ W, (Instr.slice 22 (.slice (some ⟨b, off, none⟩) n cap) (some (.int .i64 i)) (some (.int .i64 ((i : Int) + (e.size : Int)))) none).run Tryz.prog W = .ok (.slice (some ⟨b, off + i, none⟩) e.size (cap - i)) W := fun W => by
        have := slice_row b off n cap i (i + e.size) (by omega) (by omega) (by omega) W
        rw [show i + e.size - i = e.size by omega] at this
        simpa using this
      have hcv : (convert 22 9 (.slice (some ⟨b, off + i, none⟩) e.size (cap - i))).run Tryz.prog w1 = .ok (.string (s.extract i (i + e.size))) w1 :=
        Lib.run_convert_window (P := Tryz.prog) w1 22 5 9 Tryz.underlying22 Tryz.underlying5 Tryz.underlying9 b off s HZ1.out i e.size (cap - i) his
      have hoc : ((s.extract i (i + e.size)).toList == e.toList) = occ s e i := rfl
      generalize s.extract i (i + e.size) = x at *
      cases ho : occ s e i
      · rw [ho] at hoc
        have HU2 := hid (HU.out.trans (upAt_next s e i his ho))
        clear ho
        go_wp2_with fail
        go_roundg (n - (i + 1))
        case measure => omega
        case rel => exact ⟨i + 1, rfl, by omega, by omega, rfl, HU2⟩
      · rw [ho] at hoc
        have HE : Hid (upToV s fr kd e = ⟨kd, i + e.size, ⟨#[]⟩, [], false, true⟩) := by show _ = _; unfold upToV; rw [HU.out, upAt_hit s e i his ho]
        clear ho
        go_wp2_with fail
        (try simp only [Exit.inBlock, Exit.then])
        rw [HE.out]
        have hf := HFIN.out (i + e.size) true
        simp only [List.setIfInBounds_toArray, List.set] at hf
        have hbb := HBF.out (i + e.size) true
        simp only [Int.natCast_add] at hf hbb
        exact bodyPost_ret (v := .agg #[.int .i64 kd, .int .i64 ((i : Int) + (e.size : Int)), .string ⟨#[]⟩, .slice none 0 0, .bool false, .bool true]) (results_cell_row rfl _ _ w.heap.size _ _ _ _ rfl hf Tryz.underlying80 rfl (by kernel_rfl)) rfl ⟨by unfold Mk.val; simp, hbb⟩
    · have hlt' : ¬ (i : Int) + (e.size : Int) ≤ (n : Int) := by omega
      have HE : Hid (upToV s fr kd e = ⟨kd, n, ⟨#[]⟩, [], false, false⟩) := by show _ = _; unfold upToV; rw [HU.out, upAt_end s e i (by have := HN.out; omega), HN.out]
      go_wp2_with fail
      (try simp only [Exit.inBlock, Exit.then])
      rw [HE.out]
      have hf := HFIN.out n false
      simp only [List.setIfInBounds_toArray, List.set] at hf
      exact bodyPost_ret (v := .agg #[.int .i64 kd, .int .i64 n, .string ⟨#[]⟩, .slice none 0 0, .bool false, .bool false]) (results_cell_row rfl _ _ w.heap.size _ _ _ _ rfl hf Tryz.underlying80 rfl (by kernel_rfl)) rfl ⟨rfl, HBF.out n false⟩

end Go.Proofs.YtpnbkecchfhimaaGreatDoor

/- out of TagRR -/
namespace Go.Proofs.YtpnbkecchfhimaaGreatDoor
set_option maxRecDepth 100000
open Go.RowKit
open Go.Lib (hid)
set_option linter.unusedVariables false

theorem isCom_ext (t : ByteArray) (h : 4 ≤ t.size) : ((t.extract 0 4).toList == comB.toList) = isCom t := by
  have h1 := isCom_iff t
  have h2 : ((t.extract 0 4).toList == comB.toList) = true ↔ 4 ≤ t.size ∧ byt t 0 = 60 ∧ byt t 1 = 33 ∧ byt t 2 = 45 ∧ byt t 3 = 45 := by
    rw [beq_iff_eq, str_toList_inj]
    have hb : ∀ j, j < 4 → byt (t.extract 0 4) j = byt t j := fun j hj => by rw [byt_extract t 0 4 j (by omega) h, Nat.zero_add]
    constructor
    · intro he
      refine ⟨h, ?_, ?_, ?_, ?_⟩
      · rw [← hb 0 (by omega), he]; rfl
      · rw [← hb 1 (by omega), he]; rfl
      · rw [← hb 2 (by omega), he]; rfl
      · rw [← hb 3 (by omega), he]; rfl
    · rintro ⟨_, a0, a1, a2, a3⟩
      apply ext_byt
      · rw [ByteArray.size_extract]; show min 4 t.size - 0 = 4; omega
      · intro j hj
        rw [ByteArray.size_extract] at hj
        rw [hb j (by omega)]
        have : j = 0 ∨ j = 1 ∨ j = 2 ∨ j = 3 := by omega
        rcases this with rfl | rfl | rfl | rfl
        · rw [a0]; rfl
        · rw [a1]; rfl
        · rw [a2]; rfl
        · rw [a3]; rfl
  exact Bool.eq_iff_iff.2 (h2.trans h1.symm)

set_option maxRecDepth 100000 in
set_option maxHeartbeats 20000000 in
theorem refhead_walk (b off n cap i : Nat) (s : ByteArray) (hn : n = s.size) (hi : i + 1 < n) (hcap : n ≤ cap) (hc63 : cap ≤ 9223372036854775807)
    (hm : n ≤ 1048576) (w : World) (hbB : b < w.heap.size) (hz : Lib.Bytes w b off s) (h60 : byt s i = 60) :
    Calls Tryz.prog 42 #[.slice (some ⟨b, off, none⟩) n cap, .int .i64 i] w fun e w' =>
      ∃ v, e = .returned (.tuple #[(headV (s.extract i s.size)).1.val v, .bool (headV (s.extract i s.size)).2]) ∧ Below w.heap.size w w' ∧ w'.ownsRow w.heap.size 162 2 v (headV (s.extract i s.size)).1.attrs.length (atCells (headV (s.extract i s.size)).1.attrs) := by
  have hsl := fun W => slice_tail b off n cap i (by omega) hcap W
  simp only [show offIf cap i off = off + i by unfold offIf; rw [if_neg (by omega)]] at hsl
  have hcell := bytes_cell hz (i := i) (by omega)
  rw [h60] at hcell
  have hge : ¬ ((n : Int) ≤ (i : Int)) := by omega
  have hn1 : ¬ ((n - i : Nat) : Int) = 1 := by omega
  have hn1b : (((n - i : Nat) : Int) == 1) = false := by simpa using hn1
  have HZ := hid hz
  have HN := hid hn
  clear hz hn hn1
  go_enter Tryz.func42, Tryz.ntmps42
  go_upto_region 6 with fail
  have hb1 := (Below.refl w.heap.size w).alloc (Nat.le_refl _) (.cells tag0 80)
  have hr1 := Blk.new w 80 tag0
  have hs2 : (w.alloc (.cells tag0 80)).heap.size = w.heap.size + 1 := by simp
  simp only [tag0] at hb1 hr1 hs2
  generalize w.alloc (.cells #[.int .i64 0, .int .i64 0, .string ⟨#[]⟩, .slice none 0 0, .bool false, .bool false] 80) = w3 at *
  have hzt : Lib.Bytes w3 b (off + i) (s.extract i s.size) := by
    apply bytes_of_byt
    intro j hj
    rw [World.cell?_of_block (hb1.block b hbB)]
    have := bytes_tail HN.out hcap HZ.out j (i := i) (by rw [ByteArray.size_extract] at hj; have := HN.out; omega)
    rwa [show offIf cap i off = off + i by unfold offIf; rw [if_neg (by omega)]] at this
  have ht : n - i = (s.extract i s.size).size := by rw [ByteArray.size_extract]; have := HN.out; omega
  generalize hte : s.extract i s.size = t at *
  have HTE := hid hte
  clear hte
  have hc1 := bytes_cell hzt (i := 1) (by omega)
  have hd1 := byt_nonneg t 1
  have HZT := hid hzt
  have HB1 := hid hb1
  have HR1 := hid hr1
  have HT := hid ht
  have r0 := hr1.cell 0
  have r1 := hr1.cell 1
  have r2 := hr1.cell 2
  have r3 := hr1.cell 3
  have r4 := hr1.cell 4
  have r5 := hr1.cell 5
  have frr := hr1.frozen
  simp only [List.getElem?_toArray, List.getElem?_cons_zero, List.getElem?_cons_succ] at r0 r1 r2 r3 r4 r5
  clear hzt hb1 hr1 hsl ht
  have hup := fun (k : Nat) (kd : Int) (e : ByteArray) (hk : k ≤ n - i) (he : 0 < e.size) (he2 : e.size ≤ 1000) =>
    refUpTo_any b (off + i) (n - i) (cap - i) k kd e t HT.out hk (by omega) (by omega) he he2 (by omega) w3 (by omega) HZT.out
  have hnm := fun (k : Nat) (kd : Int) (hk : k ≤ n - i) =>
    reftag_any b (off + i) (n - i) (cap - i) k kd t HT.out hk (by omega) (by omega) (by omega) w3 (by omega) HZT.out
  have hnm2 : ∀ (k : Nat) (kd : Int) (hk : k ≤ n - i), Calls Tryz.prog 73 #[.slice (some ⟨b, off + i, none⟩) (n - i) (cap - i), .int .i64 k, .int .i64 kd] w3 fun e w' =>
      ∃ v, e = .returned ((namedV t k kd).val v) ∧ Below w3.heap.size w3 w' ∧ w'.ownsRow w3.heap.size 162 2 v (namedV t k kd).attrs.length (atCells (namedV t k kd).attrs) := fun k kd hk => by
    have := hnm k kd hk
    rwa [refNamed_eq t k kd (by have := HT.out; omega)] at this
  have HUP := hid hup
  have HNM := hid hnm2
  clear hup hnm hnm2
  by_cases h4 : 4 ≤ n - i
  · have h4i : (4 : Int) ≤ ((n - i : Nat) : Int) := by omega
    have hsl4 : ∀ W, (Instr.slice 22 (.slice (some ⟨b, off + i, none⟩) (n - i) (cap - i)) none (some (.int .i64 4)) none).run Tryz.prog W = .ok (.slice (some ⟨b, off + i, none⟩) 4 (cap - i)) W := fun W => by
      rw [run_slice_h (P := Tryz.prog) W 22 _ (n - i) (cap - i) rfl .i64 4 (by omega) (by omega)]
      have hs : (sizeOf (Tryz.prog.elem 22)).run Tryz.prog W = .ok 1 W := by go_simp
      rw [hs]
      simp [Result.andThen, sliced, Addr.add]
    have hcv4 : (convert 22 9 (.slice (some ⟨b, off + i, none⟩) 4 (cap - i))).run Tryz.prog w3 = .ok (.string (t.extract 0 4)) w3 := by
      have := Lib.run_convert_window (P := Tryz.prog) w3 22 5 9 Tryz.underlying22 Tryz.underlying5 Tryz.underlying9 b (off + i) t HZT.out 0 4 (cap - i) (by have := HT.out; omega)
      simpa using this
    have hce := isCom_ext t (by have := HT.out; omega)
    unfold comB at hce
    generalize t.extract 0 4 = tx at *
    cases hcom : isCom t
    · have hnc : ¬ isCom t = true := by rw [hcom]; decide
      rw [hcom] at hce
      have hx1 : ¬ tx.toList = [60, 33, 45, 45] := fun e => by
        have : (tx.toList == (⟨#[60, 33, 45, 45]⟩ : ByteArray).toList) = true := by rw [e, Lib.toList_data]; rfl
        rw [this] at hce
        cases hce
      have hx2 : (tx.toList == [60, 33, 45, 45]) = false := by simpa using hx1
      clear hcom
      go_upto_region 8 with fail
      clear h4i hsl4 hcv4 hce hx1 hx2 h4 hn1b hge hcell h60 hd1 hs2
      by_cases h47 : byt t 1 = 47
      · by_cases h3 : 2 < n - i
        · have h2t : 2 < t.size := by have := HT.out; omega
          have hc2 := bytes_cell HZT.out (i := 2) h2t
          have h3i : (3 : Int) ≤ ((n - i : Nat) : Int) := by omega
          cases hlt : letterB (byt t 2)
          · have HE := hid (show headV t = (upToV t 2 3 gtE, true) by unfold headV; rw [if_neg hnc, if_neg (fun h => by rw [hlt] at h; exact absurd h.2.2 (by decide)), if_pos (Or.inr (Or.inr h47))])
            have HL2 := hid (show ∀ W, Calls Tryz.prog 72 #[.int .u8 (byt t 2)] W fun e w' => e = .returned (.bool false) ∧ w' = W by intro W; have := refletter_any (byt t 2) W; rwa [show letterB (byt t 2) = false from hlt] at this)
            rw [h47] at hc1
            have HL1 := hid (show ∀ W, Calls Tryz.prog 72 #[.int .u8 47] W fun e w' => e = .returned (.bool false) ∧ w' = W by intro W; have := refletter_any (47) W; rwa [show letterB (47) = false from rfl] at this)
            generalize byt t 2 = c2 at *
            clear hnc h47 hlt
            go_wp2_with fail
            refine (HL2.out _).mono ?_
            rintro e w3' ⟨rfl, hw⟩
            obtain rfl : w3 = w3' := hw.symm
            go_wp2_with fail
            refine (HL1.out _).mono ?_
            rintro e w3' ⟨rfl, hw⟩
            obtain rfl : w3 = w3' := hw.symm
            go_wp2_with fail
            refine (HUP.out 2 3 gtE (by omega) (by decide) (by decide)).mono ?_
            rintro e w4 ⟨rfl, hb4⟩
            have hat := upToV_attrs t 2 3 gtE
            generalize upToV t 2 3 gtE = M at hat HE ⊢
            obtain ⟨kd, sz, nm, at_, sg, cl⟩ := M
            simp only at hat
            subst hat
            simp only [Mk.val]
            have hr4 := HR1.out.below hb4 HR1.out.lt
            have q0 := hr4.cell 0
            have q1 := hr4.cell 1
            have q2 := hr4.cell 2
            have q3 := hr4.cell 3
            have q4 := hr4.cell 4
            have q5 := hr4.cell 5
            have frq := hr4.frozen
            simp only [List.getElem?_toArray, List.getElem?_cons_zero, List.getElem?_cons_succ] at q0 q1 q2 q3 q4 q5
            have HF := hid (set6_blkR (M := ⟨kd, sz, nm, [], sg, cl⟩) (v := .slice none 0 0) hr4)
            have HBF := hid (set6_below (M := ⟨kd, sz, nm, [], sg, cl⟩) (v := .slice none 0 0) (Nat.le_refl w.heap.size) (HB1.out.trans (hb4.mono HB1.out.size)))
            clear hr4 hb4 r0 r1 r2 r3 r4 r5 frr
            go_wp2_with fail
            (try simp only [Exit.inBlock, Exit.then])
            rw [HTE.out, HE.out]
            exact bodyPost_ret (results_row_tmp rfl _ _ w.heap.size _ _ _ _ rfl HF.out Tryz.underlying80 rfl (by kernel_rfl)) rfl ⟨_, rfl, HBF.out, rfl, .inl ⟨rfl, rfl⟩⟩
          · have HE := hid (show headV t = (namedV t 2 1, true) by unfold headV; rw [if_neg hnc, if_pos ⟨h47, h2t, hlt⟩])
            have HL2 := hid (show ∀ W, Calls Tryz.prog 72 #[.int .u8 (byt t 2)] W fun e w' => e = .returned (.bool true) ∧ w' = W by intro W; have := refletter_any (byt t 2) W; rwa [show letterB (byt t 2) = true from hlt] at this)
            rw [h47] at hc1
            generalize byt t 2 = c2 at *
            clear hnc h47 hlt
            go_wp2_with fail
            refine (HL2.out _).mono ?_
            rintro e w3' ⟨rfl, hw⟩
            obtain rfl : w3 = w3' := hw.symm
            go_wp2_with fail
            refine (HNM.out 2 1 (by omega)).mono ?_
            rintro e w4 ⟨v, rfl, hb4, ho4⟩
            generalize namedV t 2 1 = M at ho4 HE ⊢
            obtain ⟨a, c, rfl, _⟩ := owns_form ho4
            obtain ⟨kd, sz, nm, at_, sg, cl⟩ := M
            simp only [Mk.val]
            simp only at ho4
            have hr4 := HR1.out.below hb4 HR1.out.lt
            have q0 := hr4.cell 0
            have q1 := hr4.cell 1
            have q2 := hr4.cell 2
            have q3 := hr4.cell 3
            have q4 := hr4.cell 4
            have q5 := hr4.cell 5
            have frq := hr4.frozen
            simp only [List.getElem?_toArray, List.getElem?_cons_zero, List.getElem?_cons_succ] at q0 q1 q2 q3 q4 q5
            have HF := hid (set6_blkR (M := ⟨kd, sz, nm, at_, sg, cl⟩) (v := .slice a at_.length c) hr4)
            have HBF := hid (set6_below (M := ⟨kd, sz, nm, at_, sg, cl⟩) (v := .slice a at_.length c) (Nat.le_refl w.heap.size) (HB1.out.trans (hb4.mono HB1.out.size)))
            have HOF := hid (set6_ownR (M := ⟨kd, sz, nm, at_, sg, cl⟩) hr4 (owns_base ho4 HB1.out.size))
            clear hr4 hb4 ho4 r0 r1 r2 r3 r4 r5 frr
            go_wp2_with fail
            (try simp only [Exit.inBlock, Exit.then])
            rw [HTE.out, HE.out]
            exact bodyPost_ret (results_row_tmp rfl _ _ w.heap.size _ _ _ _ rfl HF.out Tryz.underlying80 rfl (by kernel_rfl)) rfl ⟨_, rfl, HBF.out, HOF.out⟩
        · have h2t : ¬ 2 < t.size := by have := HT.out; omega
          have h3i : ¬ (3 : Int) ≤ ((n - i : Nat) : Int) := by omega
          have HE := hid (show headV t = (upToV t 2 3 gtE, true) by unfold headV; rw [if_neg hnc, if_neg (fun h => h2t h.2.1), if_pos (Or.inr (Or.inr h47))])
          rw [h47] at hc1
          have HL1 := hid (show ∀ W, Calls Tryz.prog 72 #[.int .u8 47] W fun e w' => e = .returned (.bool false) ∧ w' = W by intro W; have := refletter_any (47) W; rwa [show letterB (47) = false from rfl] at this)
          clear hnc h47
          go_wp2_with fail
          refine (HL1.out _).mono ?_
          rintro e w3' ⟨rfl, hw⟩
          obtain rfl : w3 = w3' := hw.symm
          go_wp2_with fail
          refine (HUP.out 2 3 gtE (by omega) (by decide) (by decide)).mono ?_
          rintro e w4 ⟨rfl, hb4⟩
          have hat := upToV_attrs t 2 3 gtE
          generalize upToV t 2 3 gtE = M at hat HE ⊢
          obtain ⟨kd, sz, nm, at_, sg, cl⟩ := M
          simp only at hat
          subst hat
          simp only [Mk.val]
          have hr4 := HR1.out.below hb4 HR1.out.lt
          have q0 := hr4.cell 0
          have q1 := hr4.cell 1
          have q2 := hr4.cell 2
          have q3 := hr4.cell 3
          have q4 := hr4.cell 4
          have q5 := hr4.cell 5
          have frq := hr4.frozen
          simp only [List.getElem?_toArray, List.getElem?_cons_zero, List.getElem?_cons_succ] at q0 q1 q2 q3 q4 q5
          have HF := hid (set6_blkR (M := ⟨kd, sz, nm, [], sg, cl⟩) (v := .slice none 0 0) hr4)
          have HBF := hid (set6_below (M := ⟨kd, sz, nm, [], sg, cl⟩) (v := .slice none 0 0) (Nat.le_refl w.heap.size) (HB1.out.trans (hb4.mono HB1.out.size)))
          clear hr4 hb4 r0 r1 r2 r3 r4 r5 frr
          go_wp2_with fail
          (try simp only [Exit.inBlock, Exit.then])
          rw [HTE.out, HE.out]
          exact bodyPost_ret (results_row_tmp rfl _ _ w.heap.size _ _ _ _ rfl HF.out Tryz.underlying80 rfl (by kernel_rfl)) rfl ⟨_, rfl, HBF.out, rfl, .inl ⟨rfl, rfl⟩⟩
      · have b47 : (byt t 1 == 47) = false := by simpa using h47
        cases hlt : letterB (byt t 1)
        · by_cases h33 : byt t 1 = 33
          · have HE := hid (show headV t = (upToV t 2 3 gtE, true) by unfold headV; rw [if_neg hnc, if_neg (fun h => h47 h.1), if_pos (Or.inl h33)])
            rw [h33] at hc1
            have HL1 := hid (show ∀ W, Calls Tryz.prog 72 #[.int .u8 33] W fun e w' => e = .returned (.bool false) ∧ w' = W by intro W; have := refletter_any (33) W; rwa [show letterB (33) = false from rfl] at this)
            clear hnc h47 hlt b47 h33 
            go_wp2_with fail
            refine (HL1.out _).mono ?_
            rintro e w3' ⟨rfl, hw⟩
            obtain rfl : w3 = w3' := hw.symm
            go_wp2_with fail
            refine (HUP.out 2 3 gtE (by omega) (by decide) (by decide)).mono ?_
            rintro e w4 ⟨rfl, hb4⟩
            have hat := upToV_attrs t 2 3 gtE
            generalize upToV t 2 3 gtE = M at hat HE ⊢
            obtain ⟨kd, sz, nm, at_, sg, cl⟩ := M
            simp only at hat
            subst hat
            simp only [Mk.val]
            have hr4 := HR1.out.below hb4 HR1.out.lt
            have q0 := hr4.cell 0
            have q1 := hr4.cell 1
            have q2 := hr4.cell 2
            have q3 := hr4.cell 3
            have q4 := hr4.cell 4
            have q5 := hr4.cell 5
            have frq := hr4.frozen
            simp only [List.getElem?_toArray, List.getElem?_cons_zero, List.getElem?_cons_succ] at q0 q1 q2 q3 q4 q5
            have HF := hid (set6_blkR (M := ⟨kd, sz, nm, [], sg, cl⟩) (v := .slice none 0 0) hr4)
            have HBF := hid (set6_below (M := ⟨kd, sz, nm, [], sg, cl⟩) (v := .slice none 0 0) (Nat.le_refl w.heap.size) (HB1.out.trans (hb4.mono HB1.out.size)))
            clear hr4 hb4 r0 r1 r2 r3 r4 r5 frr
            go_wp2_with fail
            (try simp only [Exit.inBlock, Exit.then])
            rw [HTE.out, HE.out]
            exact bodyPost_ret (results_row_tmp rfl _ _ w.heap.size _ _ _ _ rfl HF.out Tryz.underlying80 rfl (by kernel_rfl)) rfl ⟨_, rfl, HBF.out, rfl, .inl ⟨rfl, rfl⟩⟩
          have b33 : (byt t 1 == 33) = false := by simpa using h33
          by_cases h63 : byt t 1 = 63
          · have HE := hid (show headV t = (upToV t 2 3 gtE, true) by unfold headV; rw [if_neg hnc, if_neg (fun h => h47 h.1), if_pos (Or.inr (Or.inl h63))])
            rw [h63] at hc1
            have HL1 := hid (show ∀ W, Calls Tryz.prog 72 #[.int .u8 63] W fun e w' => e = .returned (.bool false) ∧ w' = W by intro W; have := refletter_any (63) W; rwa [show letterB (63) = false from rfl] at this)
            clear hnc h47 hlt b47 h33 h63 b33
            go_wp2_with fail
            refine (HL1.out _).mono ?_
            rintro e w3' ⟨rfl, hw⟩
            obtain rfl : w3 = w3' := hw.symm
            go_wp2_with fail
            refine (HUP.out 2 3 gtE (by omega) (by decide) (by decide)).mono ?_
            rintro e w4 ⟨rfl, hb4⟩
            have hat := upToV_attrs t 2 3 gtE
            generalize upToV t 2 3 gtE = M at hat HE ⊢
            obtain ⟨kd, sz, nm, at_, sg, cl⟩ := M
            simp only at hat
            subst hat
            simp only [Mk.val]
            have hr4 := HR1.out.below hb4 HR1.out.lt
            have q0 := hr4.cell 0
            have q1 := hr4.cell 1
            have q2 := hr4.cell 2
            have q3 := hr4.cell 3
            have q4 := hr4.cell 4
            have q5 := hr4.cell 5
            have frq := hr4.frozen
            simp only [List.getElem?_toArray, List.getElem?_cons_zero, List.getElem?_cons_succ] at q0 q1 q2 q3 q4 q5
            have HF := hid (set6_blkR (M := ⟨kd, sz, nm, [], sg, cl⟩) (v := .slice none 0 0) hr4)
            have HBF := hid (set6_below (M := ⟨kd, sz, nm, [], sg, cl⟩) (v := .slice none 0 0) (Nat.le_refl w.heap.size) (HB1.out.trans (hb4.mono HB1.out.size)))
            clear hr4 hb4 r0 r1 r2 r3 r4 r5 frr
            go_wp2_with fail
            (try simp only [Exit.inBlock, Exit.then])
            rw [HTE.out, HE.out]
            exact bodyPost_ret (results_row_tmp rfl _ _ w.heap.size _ _ _ _ rfl HF.out Tryz.underlying80 rfl (by kernel_rfl)) rfl ⟨_, rfl, HBF.out, rfl, .inl ⟨rfl, rfl⟩⟩
          have b63 : (byt t 1 == 63) = false := by simpa using h63
          have HE := hid (show headV t = (mk0, false) by unfold headV; rw [if_neg hnc, if_neg (fun h => h47 h.1), if_neg (fun h => h.elim h33 (fun h => h.elim h63 h47)), if_neg (by rw [hlt]; decide)])
          have HL1 := hid (show ∀ W, Calls Tryz.prog 72 #[.int .u8 (byt t 1)] W fun e w' => e = .returned (.bool false) ∧ w' = W by intro W; have := refletter_any (byt t 1) W; rwa [show letterB (byt t 1) = false from hlt] at this)
          generalize byt t 1 = c1 at *
          clear hnc h47 h33 h63 hlt
          have HF := hid (set6_blkR (M := mk0) (v := .slice none 0 0) HR1.out)
          have HBF := hid (set6_below (M := mk0) (v := .slice none 0 0) (Nat.le_refl w.heap.size) HB1.out)
          go_wp2_with fail
          refine (HL1.out _).mono ?_
          rintro e w3' ⟨rfl, hw⟩
          obtain rfl : w3 = w3' := hw.symm
          go_wp2_with fail
          (try simp only [Exit.inBlock, Exit.then])
          rw [HTE.out, HE.out]
          exact bodyPost_ret (results_row_tmp rfl _ _ w.heap.size _ _ _ _ rfl HF.out Tryz.underlying80 rfl (by kernel_rfl)) rfl ⟨_, rfl, HBF.out, rfl, .inl ⟨rfl, rfl⟩⟩
        · have HE := hid (show headV t = (namedV t 1 0, true) by
              have hx : ¬ (byt t 1 = 33 ∨ byt t 1 = 63 ∨ byt t 1 = 47) := fun h => by rcases h with h | h | h <;> (rw [h] at hlt; exact absurd hlt (by decide))
              unfold headV; rw [if_neg hnc, if_neg (fun h => h47 h.1), if_neg hx, if_pos hlt])
          have HL1 := hid (show ∀ W, Calls Tryz.prog 72 #[.int .u8 (byt t 1)] W fun e w' => e = .returned (.bool true) ∧ w' = W by intro W; have := refletter_any (byt t 1) W; rwa [show letterB (byt t 1) = true from hlt] at this)
          generalize byt t 1 = c1 at *
          clear hnc h47 hlt
          go_wp2_with fail
          refine (HL1.out _).mono ?_
          rintro e w3' ⟨rfl, hw⟩
          obtain rfl : w3 = w3' := hw.symm
          go_wp2_with fail
          refine (HNM.out 1 0 (by omega)).mono ?_
          rintro e w4 ⟨v, rfl, hb4, ho4⟩
          generalize namedV t 1 0 = M at ho4 HE ⊢
          obtain ⟨a, c, rfl, _⟩ := owns_form ho4
          obtain ⟨kd, sz, nm, at_, sg, cl⟩ := M
          simp only [Mk.val]
          simp only at ho4
          have hr4 := HR1.out.below hb4 HR1.out.lt
          have q0 := hr4.cell 0
          have q1 := hr4.cell 1
          have q2 := hr4.cell 2
          have q3 := hr4.cell 3
          have q4 := hr4.cell 4
          have q5 := hr4.cell 5
          have frq := hr4.frozen
          simp only [List.getElem?_toArray, List.getElem?_cons_zero, List.getElem?_cons_succ] at q0 q1 q2 q3 q4 q5
          have HF := hid (set6_blkR (M := ⟨kd, sz, nm, at_, sg, cl⟩) (v := .slice a at_.length c) hr4)
          have HBF := hid (set6_below (M := ⟨kd, sz, nm, at_, sg, cl⟩) (v := .slice a at_.length c) (Nat.le_refl w.heap.size) (HB1.out.trans (hb4.mono HB1.out.size)))
          have HOF := hid (set6_ownR (M := ⟨kd, sz, nm, at_, sg, cl⟩) hr4 (owns_base ho4 HB1.out.size))
          clear hr4 hb4 ho4 r0 r1 r2 r3 r4 r5 frr
          go_wp2_with fail
          (try simp only [Exit.inBlock, Exit.then])
          rw [HTE.out, HE.out]
          exact bodyPost_ret (results_row_tmp rfl _ _ w.heap.size _ _ _ _ rfl HF.out Tryz.underlying80 rfl (by kernel_rfl)) rfl ⟨_, rfl, HBF.out, HOF.out⟩
    · have HE := hid (show headV t = (upToV t 4 2 comE, true) by unfold headV; rw [if_pos hcom])
      rw [hcom] at hce
      obtain rfl : tx = ⟨#[60, 33, 45, 45]⟩ := str_toList_inj.1 (eq_of_beq hce)
      clear hcom hce
      go_wp2_with fail
      refine (HUP.out 4 2 comE h4 (by decide) (by decide)).mono ?_
      rintro e w4 ⟨rfl, hb4⟩
      have hat := upToV_attrs t 4 2 comE
      generalize upToV t 4 2 comE = M at hat HE ⊢
      obtain ⟨kd, sz, nm, at_, sg, cl⟩ := M
      simp only at hat
      subst hat
      simp only [Mk.val]
      have hr4 := HR1.out.below hb4 HR1.out.lt
      have q0 := hr4.cell 0
      have q1 := hr4.cell 1
      have q2 := hr4.cell 2
      have q3 := hr4.cell 3
      have q4 := hr4.cell 4
      have q5 := hr4.cell 5
      have frq := hr4.frozen
      simp only [List.getElem?_toArray, List.getElem?_cons_zero, List.getElem?_cons_succ] at q0 q1 q2 q3 q4 q5
      have HF := hid (set6_blkR (M := ⟨kd, sz, nm, [], sg, cl⟩) (v := .slice none 0 0) hr4)
      have HBF := hid (set6_below (M := ⟨kd, sz, nm, [], sg, cl⟩) (v := .slice none 0 0) (Nat.le_refl w.heap.size) (HB1.out.trans (hb4.mono HB1.out.size)))
      clear hr4 hb4 r0 r1 r2 r3 r4 r5 frr
      go_wp2_with fail
      (try simp only [Exit.inBlock, Exit.then])
      rw [HTE.out, HE.out]
      exact bodyPost_ret (results_row_tmp rfl _ _ w.heap.size _ _ _ _ rfl HF.out Tryz.underlying80 rfl (by kernel_rfl)) rfl ⟨_, rfl, HBF.out, rfl, .inl ⟨rfl, rfl⟩⟩
  · have h4i : ¬ (4 : Int) ≤ ((n - i : Nat) : Int) := by omega
    have hnc : ¬ isCom t = true := fun h => h4 (by have := ((isCom_iff t).1 h).1; have := HT.out; omega)
    go_upto_region 8 with fail
    clear h4i h4 hn1b hge hcell h60 hd1 hs2
    by_cases h47 : byt t 1 = 47
    · by_cases h3 : 2 < n - i
      · have h2t : 2 < t.size := by have := HT.out; omega
        have hc2 := bytes_cell HZT.out (i := 2) h2t
        have h3i : (3 : Int) ≤ ((n - i : Nat) : Int) := by omega
        cases hlt : letterB (byt t 2)
        · have HE := hid (show headV t = (upToV t 2 3 gtE, true) by unfold headV; rw [if_neg hnc, if_neg (fun h => by rw [hlt] at h; exact absurd h.2.2 (by decide)), if_pos (Or.inr (Or.inr h47))])
          have HL2 := hid (show ∀ W, Calls Tryz.prog 72 #[.int .u8 (byt t 2)] W fun e w' => e = .returned (.bool false) ∧ w' = W by intro W; have := refletter_any (byt t 2) W; rwa [show letterB (byt t 2) = false from hlt] at this)
          rw [h47] at hc1
          have HL1 := hid (show ∀ W, Calls Tryz.prog 72 #[.int .u8 47] W fun e w' => e = .returned (.bool false) ∧ w' = W by intro W; have := refletter_any (47) W; rwa [show letterB (47) = false from rfl] at this)
          generalize byt t 2 = c2 at *
          clear hnc h47 hlt
          go_wp2_with fail
          refine (HL2.out _).mono ?_
          rintro e w3' ⟨rfl, hw⟩
          obtain rfl : w3 = w3' := hw.symm
          go_wp2_with fail
          refine (HL1.out _).mono ?_
          rintro e w3' ⟨rfl, hw⟩
          obtain rfl : w3 = w3' := hw.symm
          go_wp2_with fail
          refine (HUP.out 2 3 gtE (by omega) (by decide) (by decide)).mono ?_
          rintro e w4 ⟨rfl, hb4⟩
          have hat := upToV_attrs t 2 3 gtE
          generalize upToV t 2 3 gtE = M at hat HE ⊢
          obtain ⟨kd, sz, nm, at_, sg, cl⟩ := M
          simp only at hat
          subst hat
          simp only [Mk.val]
          have hr4 := HR1.out.below hb4 HR1.out.lt
          have q0 := hr4.cell 0
          have q1 := hr4.cell 1
          have q2 := hr4.cell 2
          have q3 := hr4.cell 3
          have q4 := hr4.cell 4
          have q5 := hr4.cell 5
          have frq := hr4.frozen
          simp only [List.getElem?_toArray, List.getElem?_cons_zero, List.getElem?_cons_succ] at q0 q1 q2 q3 q4 q5
          have HF := hid (set6_blkR (M := ⟨kd, sz, nm, [], sg, cl⟩) (v := .slice none 0 0) hr4)
          have HBF := hid (set6_below (M := ⟨kd, sz, nm, [], sg, cl⟩) (v := .slice none 0 0) (Nat.le_refl w.heap.size) (HB1.out.trans (hb4.mono HB1.out.size)))
          clear hr4 hb4 r0 r1 r2 r3 r4 r5 frr
          go_wp2_with fail
          (try simp only [Exit.inBlock, Exit.then])
          rw [HTE.out, HE.out]
          exact bodyPost_ret (results_row_tmp rfl _ _ w.heap.size _ _ _ _ rfl HF.out Tryz.underlying80 rfl (by kernel_rfl)) rfl ⟨_, rfl, HBF.out, rfl, .inl ⟨rfl, rfl⟩⟩
        · have HE := hid (show headV t = (namedV t 2 1, true) by unfold headV; rw [if_neg hnc, if_pos ⟨h47, h2t, hlt⟩])
          have HL2 := hid (show ∀ W, Calls Tryz.prog 72 #[.int .u8 (byt t 2)] W fun e w' => e = .returned (.bool true) ∧ w' = W by intro W; have := refletter_any (byt t 2) W; rwa [show letterB (byt t 2) = true from hlt] at this)
          rw [h47] at hc1
          generalize byt t 2 = c2 at *
          clear hnc h47 hlt
          go_wp2_with fail
          refine (HL2.out _).mono ?_
          rintro e w3' ⟨rfl, hw⟩
          obtain rfl : w3 = w3' := hw.symm
          go_wp2_with fail
          refine (HNM.out 2 1 (by omega)).mono ?_
          rintro e w4 ⟨v, rfl, hb4, ho4⟩
          generalize namedV t 2 1 = M at ho4 HE ⊢
          obtain ⟨a, c, rfl, _⟩ := owns_form ho4
          obtain ⟨kd, sz, nm, at_, sg, cl⟩ := M
          simp only [Mk.val]
          simp only at ho4
          have hr4 := HR1.out.below hb4 HR1.out.lt
          have q0 := hr4.cell 0
          have q1 := hr4.cell 1
          have q2 := hr4.cell 2
          have q3 := hr4.cell 3
          have q4 := hr4.cell 4
          have q5 := hr4.cell 5
          have frq := hr4.frozen
          simp only [List.getElem?_toArray, List.getElem?_cons_zero, List.getElem?_cons_succ] at q0 q1 q2 q3 q4 q5
          have HF := hid (set6_blkR (M := ⟨kd, sz, nm, at_, sg, cl⟩) (v := .slice a at_.length c) hr4)
          have HBF := hid (set6_below (M := ⟨kd, sz, nm, at_, sg, cl⟩) (v := .slice a at_.length c) (Nat.le_refl w.heap.size) (HB1.out.trans (hb4.mono HB1.out.size)))
          have HOF := hid (set6_ownR (M := ⟨kd, sz, nm, at_, sg, cl⟩) hr4 (owns_base ho4 HB1.out.size))
          clear hr4 hb4 ho4 r0 r1 r2 r3 r4 r5 frr
          go_wp2_with fail
          (try simp only [Exit.inBlock, Exit.then])
          rw [HTE.out, HE.out]
          exact bodyPost_ret (results_row_tmp rfl _ _ w.heap.size _ _ _ _ rfl HF.out Tryz.underlying80 rfl (by kernel_rfl)) rfl ⟨_, rfl, HBF.out, HOF.out⟩
      · have h2t : ¬ 2 < t.size := by have := HT.out; omega
        have h3i : ¬ (3 : Int) ≤ ((n - i : Nat) : Int) := by omega
        have HE := hid (show headV t = (upToV t 2 3 gtE, true) by unfold headV; rw [if_neg hnc, if_neg (fun h => h2t h.2.1), if_pos (Or.inr (Or.inr h47))])
        rw [h47] at hc1
        have HL1 := hid (show ∀ W, Calls Tryz.prog 72 #[.int .u8 47] W fun e w' => e = .returned (.bool false) ∧ w' = W by intro W; have := refletter_any (47) W; rwa [show letterB (47) = false from rfl] at this)
        clear hnc h47
        go_wp2_with fail
        refine (HL1.out _).mono ?_
        rintro e w3' ⟨rfl, hw⟩
        obtain rfl : w3 = w3' := hw.symm
        go_wp2_with fail
        refine (HUP.out 2 3 gtE (by omega) (by decide) (by decide)).mono ?_
        rintro e w4 ⟨rfl, hb4⟩
        have hat := upToV_attrs t 2 3 gtE
        generalize upToV t 2 3 gtE = M at hat HE ⊢
        obtain ⟨kd, sz, nm, at_, sg, cl⟩ := M
        simp only at hat
        subst hat
        simp only [Mk.val]
        have hr4 := HR1.out.below hb4 HR1.out.lt
        have q0 := hr4.cell 0
        have q1 := hr4.cell 1
        have q2 := hr4.cell 2
        have q3 := hr4.cell 3
        have q4 := hr4.cell 4
        have q5 := hr4.cell 5
        have frq := hr4.frozen
        simp only [List.getElem?_toArray, List.getElem?_cons_zero, List.getElem?_cons_succ] at q0 q1 q2 q3 q4 q5
        have HF := hid (set6_blkR (M := ⟨kd, sz, nm, [], sg, cl⟩) (v := .slice none 0 0) hr4)
        have HBF := hid (set6_below (M := ⟨kd, sz, nm, [], sg, cl⟩) (v := .slice none 0 0) (Nat.le_refl w.heap.size) (HB1.out.trans (hb4.mono HB1.out.size)))
        clear hr4 hb4 r0 r1 r2 r3 r4 r5 frr
        go_wp2_with fail
        (try simp only [Exit.inBlock, Exit.then])
        rw [HTE.out, HE.out]
        exact bodyPost_ret (results_row_tmp rfl _ _ w.heap.size _ _ _ _ rfl HF.out Tryz.underlying80 rfl (by kernel_rfl)) rfl ⟨_, rfl, HBF.out, rfl, .inl ⟨rfl, rfl⟩⟩
    · have b47 : (byt t 1 == 47) = false := by simpa using h47
      cases hlt : letterB (byt t 1)
      · by_cases h33 : byt t 1 = 33
        · have HE := hid (show headV t = (upToV t 2 3 gtE, true) by unfold headV; rw [if_neg hnc, if_neg (fun h => h47 h.1), if_pos (Or.inl h33)])
          rw [h33] at hc1
          have HL1 := hid (show ∀ W, Calls Tryz.prog 72 #[.int .u8 33] W fun e w' => e = .returned (.bool false) ∧ w' = W by intro W; have := refletter_any (33) W; rwa [show letterB (33) = false from rfl] at this)
          clear hnc h47 hlt b47 h33 
          go_wp2_with fail
          refine (HL1.out _).mono ?_
          rintro e w3' ⟨rfl, hw⟩
          obtain rfl : w3 = w3' := hw.symm
          go_wp2_with fail
          refine (HUP.out 2 3 gtE (by omega) (by decide) (by decide)).mono ?_
          rintro e w4 ⟨rfl, hb4⟩
          have hat := upToV_attrs t 2 3 gtE
          generalize upToV t 2 3 gtE = M at hat HE ⊢
          obtain ⟨kd, sz, nm, at_, sg, cl⟩ := M
          simp only at hat
          subst hat
          simp only [Mk.val]
          have hr4 := HR1.out.below hb4 HR1.out.lt
          have q0 := hr4.cell 0
          have q1 := hr4.cell 1
          have q2 := hr4.cell 2
          have q3 := hr4.cell 3
          have q4 := hr4.cell 4
          have q5 := hr4.cell 5
          have frq := hr4.frozen
          simp only [List.getElem?_toArray, List.getElem?_cons_zero, List.getElem?_cons_succ] at q0 q1 q2 q3 q4 q5
          have HF := hid (set6_blkR (M := ⟨kd, sz, nm, [], sg, cl⟩) (v := .slice none 0 0) hr4)
          have HBF := hid (set6_below (M := ⟨kd, sz, nm, [], sg, cl⟩) (v := .slice none 0 0) (Nat.le_refl w.heap.size) (HB1.out.trans (hb4.mono HB1.out.size)))
          clear hr4 hb4 r0 r1 r2 r3 r4 r5 frr
          go_wp2_with fail
          (try simp only [Exit.inBlock, Exit.then])
          rw [HTE.out, HE.out]
          exact bodyPost_ret (results_row_tmp rfl _ _ w.heap.size _ _ _ _ rfl HF.out Tryz.underlying80 rfl (by kernel_rfl)) rfl ⟨_, rfl, HBF.out, rfl, .inl ⟨rfl, rfl⟩⟩
        have b33 : (byt t 1 == 33) = false := by simpa using h33
        by_cases h63 : byt t 1 = 63
        · have HE := hid (show headV t = (upToV t 2 3 gtE, true) by unfold headV; rw [if_neg hnc, if_neg (fun h => h47 h.1), if_pos (Or.inr (Or.inl h63))])
          rw [h63] at hc1
          have HL1 := hid (show ∀ W, Calls Tryz.prog 72 #[.int .u8 63] W fun e w' => e = .returned (.bool false) ∧ w' = W by intro W; have := refletter_any (63) W; rwa [show letterB (63) = false from rfl] at this)
          clear hnc h47 hlt b47 h33 h63 b33
          go_wp2_with fail
          refine (HL1.out _).mono ?_
          rintro e w3' ⟨rfl, hw⟩
          obtain rfl : w3 = w3' := hw.symm
          go_wp2_with fail
          refine (HUP.out 2 3 gtE (by omega) (by decide) (by decide)).mono ?_
          rintro e w4 ⟨rfl, hb4⟩
          have hat := upToV_attrs t 2 3 gtE
          generalize upToV t 2 3 gtE = M at hat HE ⊢
          obtain ⟨kd, sz, nm, at_, sg, cl⟩ := M
          simp only at hat
          subst hat
          simp only [Mk.val]
          have hr4 := HR1.out.below hb4 HR1.out.lt
          have q0 := hr4.cell 0
          have q1 := hr4.cell 1
          have q2 := hr4.cell 2
          have q3 := hr4.cell 3
          have q4 := hr4.cell 4
          have q5 := hr4.cell 5
          have frq := hr4.frozen
          simp only [List.getElem?_toArray, List.getElem?_cons_zero, List.getElem?_cons_succ] at q0 q1 q2 q3 q4 q5
          have HF := hid (set6_blkR (M := ⟨kd, sz, nm, [], sg, cl⟩) (v := .slice none 0 0) hr4)
          have HBF := hid (set6_below (M := ⟨kd, sz, nm, [], sg, cl⟩) (v := .slice none 0 0) (Nat.le_refl w.heap.size) (HB1.out.trans (hb4.mono HB1.out.size)))
          clear hr4 hb4 r0 r1 r2 r3 r4 r5 frr
          go_wp2_with fail
          (try simp only [Exit.inBlock, Exit.then])
          rw [HTE.out, HE.out]
          exact bodyPost_ret (results_row_tmp rfl _ _ w.heap.size _ _ _ _ rfl HF.out Tryz.underlying80 rfl (by kernel_rfl)) rfl ⟨_, rfl, HBF.out, rfl, .inl ⟨rfl, rfl⟩⟩
        have b63 : (byt t 1 == 63) = false := by simpa using h63
        have HE := hid (show headV t = (mk0, false) by unfold headV; rw [if_neg hnc, if_neg (fun h => h47 h.1), if_neg (fun h => h.elim h33 (fun h => h.elim h63 h47)), if_neg (by rw [hlt]; decide)])
        have HL1 := hid (show ∀ W, Calls Tryz.prog 72 #[.int .u8 (byt t 1)] W fun e w' => e = .returned (.bool false) ∧ w' = W by intro W; have := refletter_any (byt t 1) W; rwa [show letterB (byt t 1) = false from hlt] at this)
        generalize byt t 1 = c1 at *
        clear hnc h47 h33 h63 hlt
        have HF := hid (set6_blkR (M := mk0) (v := .slice none 0 0) HR1.out)
        have HBF := hid (set6_below (M := mk0) (v := .slice none 0 0) (Nat.le_refl w.heap.size) HB1.out)
        go_wp2_with fail
        refine (HL1.out _).mono ?_
        rintro e w3' ⟨rfl, hw⟩
        obtain rfl : w3 = w3' := hw.symm
        go_wp2_with fail
        (try simp only [Exit.inBlock, Exit.then])
        rw [HTE.out, HE.out]
        exact bodyPost_ret (results_row_tmp rfl _ _ w.heap.size _ _ _ _ rfl HF.out Tryz.underlying80 rfl (by kernel_rfl)) rfl ⟨_, rfl, HBF.out, rfl, .inl ⟨rfl, rfl⟩⟩
      · have HE := hid (show headV t = (namedV t 1 0, true) by
            have hx : ¬ (byt t 1 = 33 ∨ byt t 1 = 63 ∨ byt t 1 = 47) := fun h => by rcases h with h | h | h <;> (rw [h] at hlt; exact absurd hlt (by decide))
            unfold headV; rw [if_neg hnc, if_neg (fun h => h47 h.1), if_neg hx, if_pos hlt])
        have HL1 := hid (show ∀ W, Calls Tryz.prog 72 #[.int .u8 (byt t 1)] W fun e w' => e = .returned (.bool true) ∧ w' = W by intro W; have := refletter_any (byt t 1) W; rwa [show letterB (byt t 1) = true from hlt] at this)
        generalize byt t 1 = c1 at *
        clear hnc h47 hlt
        go_wp2_with fail
        refine (HL1.out _).mono ?_
        rintro e w3' ⟨rfl, hw⟩
        obtain rfl : w3 = w3' := hw.symm
        go_wp2_with fail
        refine (HNM.out 1 0 (by omega)).mono ?_
        rintro e w4 ⟨v, rfl, hb4, ho4⟩
        generalize namedV t 1 0 = M at ho4 HE ⊢
        obtain ⟨a, c, rfl, _⟩ := owns_form ho4
        obtain ⟨kd, sz, nm, at_, sg, cl⟩ := M
        simp only [Mk.val]
        simp only at ho4
        have hr4 := HR1.out.below hb4 HR1.out.lt
        have q0 := hr4.cell 0
        have q1 := hr4.cell 1
        have q2 := hr4.cell 2
        have q3 := hr4.cell 3
        have q4 := hr4.cell 4
        have q5 := hr4.cell 5
        have frq := hr4.frozen
        simp only [List.getElem?_toArray, List.getElem?_cons_zero, List.getElem?_cons_succ] at q0 q1 q2 q3 q4 q5
        have HF := hid (set6_blkR (M := ⟨kd, sz, nm, at_, sg, cl⟩) (v := .slice a at_.length c) hr4)
        have HBF := hid (set6_below (M := ⟨kd, sz, nm, at_, sg, cl⟩) (v := .slice a at_.length c) (Nat.le_refl w.heap.size) (HB1.out.trans (hb4.mono HB1.out.size)))
        have HOF := hid (set6_ownR (M := ⟨kd, sz, nm, at_, sg, cl⟩) hr4 (owns_base ho4 HB1.out.size))
        clear hr4 hb4 ho4 r0 r1 r2 r3 r4 r5 frr
        go_wp2_with fail
        (try simp only [Exit.inBlock, Exit.then])
        rw [HTE.out, HE.out]
        exact bodyPost_ret (results_row_tmp rfl _ _ w.heap.size _ _ _ _ rfl HF.out Tryz.underlying80 rfl (by kernel_rfl)) rfl ⟨_, rfl, HBF.out, HOF.out⟩

end Go.Proofs.YtpnbkecchfhimaaGreatDoor

/- out of TagRR2 -/
namespace Go.Proofs.YtpnbkecchfhimaaGreatDoor
set_option maxRecDepth 100000
open Go.RowKit
open Go.Lib (hid)
set_option linter.unusedVariables false

set_option maxRecDepth 100000 in
set_option maxHeartbeats 8000000 in
theorem refread_any (w : World) (a : Option Addr) (n cap : Nat) (i : Int) (s : ByteArray) (hn : n = s.size) (hrow : 0 < n → ∃ b off, a = some ⟨b, off, none⟩ ∧ b < w.heap.size ∧ Lib.Bytes w b off s) (hcap : n ≤ cap) (hc63 : cap ≤ 9223372036854775807)
    (hm : n ≤ 1048576) (hi63 : i ≤ 9223372036854775807) :
    Calls Tryz.prog 42 #[.slice a n cap, .int .i64 i] w fun e w' =>
      ∃ v, e = .returned (.tuple #[(readV s i).1.val v, .bool (readV s i).2]) ∧ Below w.heap.size w w' ∧ w'.ownsRow w.heap.size 162 2 v (readV s i).1.attrs.length (atCells (readV s i).1.attrs) := by
  have hb0 := (Below.refl w.heap.size w).alloc (Nat.le_refl _) (.cells tag0 80)
  have hr0 := Blk.new w 80 tag0
  have HF := hid hr0
  have HBF := hid hb0
  clear hb0 hr0
  by_cases h0 : i < 0
  · have HE := hid (show readV s i = (mk0, false) by unfold readV; rw [if_pos (.inl h0)])
    clear hn hrow
    go_enter Tryz.func42, Tryz.ntmps42
    go_wp2_with fail
    (try simp only [Exit.inBlock, Exit.then])
    rw [HE.out]
    exact bodyPost_ret (results_row_tmp rfl _ _ w.heap.size _ _ _ _ rfl HF.out Tryz.underlying80 rfl (by kernel_rfl)) rfl ⟨_, rfl, HBF.out, rfl, .inl ⟨rfl, rfl⟩⟩
  by_cases h1 : (n : Int) ≤ i
  · have HE := hid (show readV s i = (mk0, false) by unfold readV; rw [if_pos (.inr (.inl (by omega)))])
    clear hn hrow
    go_enter Tryz.func42, Tryz.ntmps42
    go_wp2_with fail
    (try simp only [Exit.inBlock, Exit.then])
    rw [HE.out]
    exact bodyPost_ret (results_row_tmp rfl _ _ w.heap.size _ _ _ _ rfl HF.out Tryz.underlying80 rfl (by kernel_rfl)) rfl ⟨_, rfl, HBF.out, rfl, .inl ⟨rfl, rfl⟩⟩
  obtain ⟨k, rfl⟩ : ∃ k : Nat, i = k := ⟨i.toNat, by omega⟩
  obtain ⟨b, off, rfl, hbB, hz⟩ := hrow (by omega)
  by_cases h60 : byt s k = 60
  · by_cases hk1 : k + 1 < n
    · have he : readV s k = headV (s.extract k s.size) := by unfold readV; exact if_neg (fun h => h.elim h0 (fun h => h.elim (fun h => by omega) (fun h => h h60)))
      rw [he]
      exact refhead_walk b off n cap k s hn hk1 hcap hc63 hm w hbB hz h60
    · have HE := hid (show readV s k = (mk0, false) by unfold readV; rw [if_pos (.inr (.inl (by omega)))])
      have hcell := bytes_cell hz (i := k) (by omega)
      rw [h60] at hcell
      have hsl := fun W => slice_tail b off n cap k (by omega) hcap W
      have hone : n - k = 1 := by omega
      rw [hone] at hsl
      clear hn
      go_enter Tryz.func42, Tryz.ntmps42
      go_wp2_with fail
      (try simp only [Exit.inBlock, Exit.then])
      rw [HE.out]
      exact bodyPost_ret (results_row_tmp rfl _ _ w.heap.size _ _ _ _ rfl HF.out Tryz.underlying80 rfl (by kernel_rfl)) rfl ⟨_, rfl, HBF.out, rfl, .inl ⟨rfl, rfl⟩⟩
  · have hcell := bytes_cell hz (i := k) (by omega)
    have b60 : (byt s k != 60) = true := by simpa using h60
    have HE := hid (show readV s k = (mk0, false) by unfold readV; rw [if_pos (.inr (.inr h60))])
    generalize byt s k = c at *
    clear hn hrow
    go_enter Tryz.func42, Tryz.ntmps42
    go_wp2_with fail
    (try simp only [Exit.inBlock, Exit.then])
    rw [HE.out]
    exact bodyPost_ret (results_row_tmp rfl _ _ w.heap.size _ _ _ _ rfl HF.out Tryz.underlying80 rfl (by kernel_rfl)) rfl ⟨_, rfl, HBF.out, rfl, .inl ⟨rfl, rfl⟩⟩

end Go.Proofs.YtpnbkecchfhimaaGreatDoor
