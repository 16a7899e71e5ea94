/- Chapter 18: the document's mark: the walk of one round in the state 6. -/
import Derived.Test.YtpkbmgpbagdalaaTagRT0
namespace Go.Proofs.Ytpkbmgpbagdalaa
open Go.RowKit
open Go.Lib (hid)
set_option linter.unusedVariables false
set_option maxRecDepth 1000000 in
set_option maxHeartbeats 40000000 in
theorem rt_case6 (b off n cap fr : Nat) (kd : Int) (s : ByteArray) (hi : fr ≤ n) (hcap : n ≤ cap) (hc63 : cap ≤ 9223372036854775807)
    (hm : n ≤ 1048576) (w : World) (hbB : b < w.heap.size) (HZ : Hid (Lib.Bytes w b off s)) (HN : Hid (n = s.size)) (M : Mk) (HM : Hid (refNamed s fr kd = M))
    (gk : Nat) (wr : World) (J : Nat → Act → World → Prop) (K : Act → World → Prop) (K2 : Act → World → Prop) (Q : Exit → Act → World → Prop)
    (hJ : ∀ k' a' w', rtI b off n cap fr kd s w M k' a' w' → J k' a' w') (hK : ∀ a' w', Handed J gk a' w' → K a' w')
    (HQR : Hid (∀ a' w', bodyPost Try.prog Try.f23 (rtR s fr kd w) .ret a' w' → Q .ret a' w'))
    (i : Nat) (sl : Bool) (nm vl : ByteArray) (q : Int) (tn : ByteArray) (at_ : List (ByteArray × ByteArray)) (v : Value)
    (hin : i ≤ n) (hg : n - i ≤ gk) (hlt : i < n) (HRT : Hid (RT s w wr kd i ⟨6, sl, nm, vl, q, tn, at_⟩ v M))
    (u14 u15 u16 u20 u21 u22 u23 u24 u25 u26 u27 u28 u29 u30 u31 u32 u33 u34 u35 u36 u37 u38 u39 u40 u41 u42 u43 u44 u45 u46 u47 u48 u49 u50 u51 u52 u53 u54 u55 u56 u57 u58 u59 u60 u61 u62 u63 u64 u65 u66 u67 u68 u69 u70 u71 u72 u73 u74 u75 u76 u77 u78 u79 u80 u81 u82 u83 u84 u85 u86 u87 u88 u89 u90 u91 u92 u93 u94 u95 u96 u97 u98 u99 u100 u101 u102 u103 u104 u105 u106 u107 u108 u109 u110 u111 u112 u113 u114 u115 u116 u117 u118 u119 u120 u121 u122 u123 u124 u125 u126 u127 u128 u129 u130 u131 u132 u133 u134 u135 u136 u137 u138 u139 u140 u141 u142 u143 u144 u145 u146 u147 u148 u149 u150 u151 u152 u153 u154 u155 u156 u157 u158 u159 u160 u161 u162 u163 u164 u165 u166 u167 u168 u169 u170 u171 u172 u173 u174 u175 u176 u177 u178 u179 u180 u181 u182 u183 u184 u185 u186 u187 u188 u189 : Value) :
    Code.wp Try.prog rtBody (Exit.then K (Exit.inBlock 0 (Exit.then K2 Q))) ⟨#[.slice (some ⟨b, off, none⟩) n cap, .int .i64 (fr : Nat), .int .i64 kd, undef, undef, undef, .pointer (some ⟨w.heap.size, 0, none⟩), .pointer (some ⟨w.heap.size + 1, 0, none⟩), .int .i64 6, .bool sl, .string nm, .string vl, .int .u8 q, .int .i64 i, u14, u15, u16, .int .i64 kd, .agg #[.int .i64 kd, .int .i64 0, .string ⟨#[]⟩, .slice none 0 0, .bool false, .bool false], .int .i64 (fr : Nat), u20, u21, u22, u23, u24, u25, u26, u27, u28, u29, u30, u31, u32, u33, u34, u35, u36, u37, u38, u39, u40, u41, u42, u43, u44, u45, u46, u47, u48, u49, u50, u51, u52, u53, u54, u55, u56, u57, u58, u59, u60, u61, u62, u63, u64, u65, u66, u67, u68, u69, u70, u71, u72, u73, u74, u75, u76, u77, u78, u79, u80, u81, u82, u83, u84, u85, u86, u87, u88, u89, u90, u91, u92, u93, u94, u95, u96, u97, u98, u99, u100, u101, u102, u103, u104, u105, u106, u107, u108, u109, u110, u111, u112, u113, u114, u115, u116, u117, u118, u119, u120, u121, u122, u123, u124, u125, u126, u127, u128, u129, u130, u131, u132, u133, u134, u135, u136, u137, u138, u139, u140, u141, u142, u143, u144, u145, u146, u147, u148, u149, u150, u151, u152, u153, u154, u155, u156, u157, u158, u159, u160, u161, u162, u163, u164, u165, u166, u167, u168, u169, u170, u171, u172, u173, u174, u175, u176, u177, u178, u179, u180, u181, u182, u183, u184, u185, u186, u187, u188, u189, undef, undef, undef, undef, undef, undef, undef, undef, undef, undef, undef, undef, undef, undef], []⟩ wr := by
  conv => arg 2; whnf
  unfold rtI at hJ
  obtain ⟨i0, hi0, hz0, hz1, hz2⟩ := info_parts info_rattr
  have hlt' : (i : Int) < (n : Int) := by omega
  have his : i < s.size := by have := HN.out; omega
  have hbr := HRT.out.bel
  have hzr : Lib.Bytes wr b off s := Bytes.keepAt HZ.out fun j => World.cell?_of_block (hbr.block b hbB)
  have hcell := bytes_cell hzr his
  have hi1 : (i : Int) + 1 ≤ 9223372036854775807 := by omega
  have hsl : ∀ W, (Instr.slice 22 (.slice (some ⟨b, off, none⟩) n cap) (some (.int .i64 i)) (some (.int .i64 ((i : Int) + 1))) none).run Try.prog W = .ok (.slice (some ⟨b, off + i, none⟩) 1 (cap - i)) W := fun W => by
    have := slice_row b off n cap i (i + 1) (by omega) (by omega) (by omega) W
    rw [show i + 1 - i = 1 by omega] at this
    simpa using this
  have hcv : (convert 22 9 (.slice (some ⟨b, off + i, none⟩) 1 (cap - i))).run Try.prog wr = .ok (.string (at1 s i)) wr :=
    Lib.run_convert_window (P := Try.prog) wr 22 5 9 Try.underlying22 Try.underlying5 Try.underlying9 b off s hzr i 1 (cap - i) (by omega)
  have hch : (at1 s i).size = 1 := by unfold at1; rw [ByteArray.size_extract]; omega
  have hcr := byt_nonneg s i
  have hgo := fun st' => fromT_go s kd i ⟨6, sl, nm, vl, q, tn, at_⟩ st' his
  have hstop := fun st' => fromT_stop s kd i ⟨6, sl, nm, vl, q, tn, at_⟩ st' his
  rw [HRT.out.go] at hgo hstop
  generalize at1 s i = ch at *
  generalize byt s i = c at *
  have HGO := hid hgo
  have HSTOP := hid hstop
  have hlow := fun W => rlower_any ch (by omega) W
  have HLOW := hid hlow
  have HCH := hid hch
  have g2 := HRT.out.blk.cell 2
  have g3 := HRT.out.blk.cell 3
  have frg := HRT.out.blk.frozen
  simp only [rfC, List.getElem?_toArray, List.getElem?_cons_zero, List.getElem?_cons_succ] at g2 g3
  have hbl : ∀ W, Calls Try.prog 35 #[.int .u8 c] W fun e w' => e = .returned (.bool (blankB c)) ∧ w' = W := fun W => refblank_any c W
  have HBL := hid hbl
  clear hbr hzr hgo hstop hlow hch hbl hcr
  have tsz := HRT.out.sz
  simp only at tsz
  have TSZ := hid tsz
  clear tsz
  by_cases hq : c = q
  · subst hq
    have HE := hid (HGO.out ⟨1, false, nm, vl, c, tn, (at_ ++ [(nm, vl)])⟩ (by unfold stepT; first | (simp; done)))
    go_wp2_with (first | (at_builtin; go_must (refine wpList_append_any _ rfl (.tmp 172) (.tmp 176) 29 rfl (w.heap.size + 2) 43 i0 (.agg #[.string ⟨#[]⟩, .string ⟨#[]⟩]) 2 32 Try.underlying29 hi0 hz0 hz1 hz2 rfl (by decide) v at_.length (atCells at_) rfl (HRT.out.own.alloc _) _ (some ⟨wr.heap.size, 0, none⟩) 1 1 [.string nm, .string vl] rfl (reads_blk2 (Blk.new wr _ _)) (by simp [Value.oneCell']) (by have := TSZ.out; unfold maxLen; omega) (by have := TSZ.out; omega) (by have := HRT.out.blk.lt; simp; omega) ?_); intro v' w2 ho2 hg2 hl2; obtain ⟨A2, c2, rfl⟩ := owns_slice ho2; have hv2 := own_ge HRT.out.own; have hblk2 := (HRT.out.blk.alloc _).grown hg2 (fun e => by have := hv2 _ e.symm; omega); have k3 := hblk2.cell 3; have frk := hblk2.frozen; simp only [rfC, List.getElem?_toArray, List.getElem?_cons_zero, List.getElem?_cons_succ] at k3; have HO2 := hid ho2; have HG2 := hid hg2; clear ho2 hg2 hl2 hv2 hblk2))
    go_roundg (n - (i + 1))
    case measure => omega
    case rel => exact ⟨i + 1, 1, 1, false, nm, vl, c, tn, (at_ ++ [(nm, vl)]), _, rfl, rfl, rfl, rfl, rfl, rfl, rfl, by omega, Nat.le_refl _, by decide, HRT.out.app HO2.out HG2.out HE.out (by have := TSZ.out; have := HCH.out; first | exact Nat.zero_le _ | omega | (rw [ByteArray.size_append]; omega) | (rw [lowerB_size]; omega) | (rw [ByteArray.size_append, lowerB_size]; omega)) (by have := TSZ.out; have := HCH.out; first | exact Nat.zero_le _ | omega | (rw [ByteArray.size_append]; omega) | (rw [lowerB_size]; omega) | (rw [ByteArray.size_append, lowerB_size]; omega))⟩
  have HE := hid (HGO.out ⟨6, sl, nm, (vl ++ ch), q, tn, at_⟩ (by unfold stepT; first | (simp; done) | simp [hq]))
  have bq : (c == q) = false := by simpa using hq
  have hlen : ¬ (vl.size + ch.size > 9223372036854775807) := by rw [HCH.out]; have := TSZ.out.2.2.1; omega
  clear hq
  go_wp2_with fail
  go_roundg (n - (i + 1))
  case measure => omega
  case rel => exact ⟨i + 1, 6, 6, sl, nm, (vl ++ ch), q, tn, at_, v, rfl, rfl, rfl, rfl, rfl, rfl, rfl, by omega, Nat.le_refl _, by decide, HRT.out.same HE.out (by have := TSZ.out; have := HCH.out; first | exact Nat.zero_le _ | omega | (rw [ByteArray.size_append]; omega) | (rw [lowerB_size]; omega) | (rw [ByteArray.size_append, lowerB_size]; omega)) (by have := TSZ.out; have := HCH.out; first | exact Nat.zero_le _ | omega | (rw [ByteArray.size_append]; omega) | (rw [lowerB_size]; omega) | (rw [ByteArray.size_append, lowerB_size]; omega))⟩
end Go.Proofs.Ytpkbmgpbagdalaa
