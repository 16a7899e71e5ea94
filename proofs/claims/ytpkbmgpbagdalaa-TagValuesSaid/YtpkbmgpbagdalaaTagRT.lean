/- Chapter 18: the document's mark: the walk. -/
import Derived.Test.YtpkbmgpbagdalaaTagRT1
import Derived.Test.YtpkbmgpbagdalaaTagRT2
import Derived.Test.YtpkbmgpbagdalaaTagRT3
import Derived.Test.YtpkbmgpbagdalaaTagRT4
import Derived.Test.YtpkbmgpbagdalaaTagRT5
import Derived.Test.YtpkbmgpbagdalaaTagRT6
import Derived.Test.YtpkbmgpbagdalaaTagRT7
namespace Go.Proofs.Ytpkbmgpbagdalaa
open Go.RowKit
open Go.Lib (hid)
set_option linter.unusedVariables false
set_option maxRecDepth 1000000 in
set_option maxHeartbeats 40000000 in
theorem reftag_any (b off n cap fr : Nat) (kd : Int) (s : ByteArray) (hn : n = s.size) (hi : fr ≤ n) (hcap : n ≤ cap) (hc63 : cap ≤ 9223372036854775807)
    (hm : n ≤ 1048576) (w : World) (hbB : b < w.heap.size) (hz : Lib.Bytes w b off s) :
    Calls Try.prog 23 #[.slice (some ⟨b, off, none⟩) n cap, .int .i64 fr, .int .i64 kd] w fun e w' =>
      ∃ v, e = .returned ((refNamed s fr kd).val v) ∧ Below w.heap.size w w' ∧ w'.ownsRow w.heap.size 43 2 v (refNamed s fr kd).attrs.length (atCells (refNamed s fr kd).attrs) := by
  have HZ := hid hz
  have HN := hid hn
  obtain ⟨i0, hi0, hz0, hz1, hz2⟩ := info_parts info_rattr
  clear hz hn
  go_enter Try.func23, Try.ntmps23
  go_wp2_with fail
  have hb0 := ((Below.refl w.heap.size w).alloc (Nat.le_refl _) (.cells tag0 31)).alloc (by simp) (.cells (rfC kd ⟨#[]⟩ (.slice none 0 0)) 31)
  have hr0 := (Blk.new w 31 tag0).alloc (.cells (rfC kd ⟨#[]⟩ (.slice none 0 0)) 31)
  have hq0 := Blk.new (w.alloc (.cells tag0 31)) 31 (rfC kd ⟨#[]⟩ (.slice none 0 0))
  rw [show (w.alloc (.cells tag0 31)).heap.size = w.heap.size + 1 by simp] at hq0
  have hs0 : ((w.alloc (.cells tag0 31)).alloc (.cells (rfC kd ⟨#[]⟩ (.slice none 0 0)) 31)).heap.size = w.heap.size + 2 := by simp
  simp only [tag0, rfC] at hb0 hr0 hq0 hs0
  generalize ((w.alloc (.cells #[.int .i64 0, .int .i64 0, .string ⟨#[]⟩, .slice none 0 0, .bool false, .bool false] 31)).alloc (.cells #[.int .i64 kd, .int .i64 0, .string ⟨#[]⟩, .slice none 0 0, .bool false, .bool false] 31)) = w0 at *
  have HRT0 : Hid (RT s w w0 kd fr st0 (.slice none 0 0) (refNamed s fr kd)) := ⟨⟨Nat.zero_le _, Nat.zero_le _, Nat.zero_le _, Nat.zero_le _⟩, rfl, hb0, hq0, hr0, rfl, .inl ⟨rfl, rfl⟩⟩
  have HS0 := hid hs0
  clear hb0 hr0 hq0 hs0
  generalize hM : refNamed s fr kd = M at *
  have HM := hid hM
  clear hM
  go_loopg [8, 9, 10, 11, 12, 13] n (fun kx s8 s9 s10 s11 s12 s13 wr => ∃ (i k : Nat) (z : Int) (sl : Bool) (nm vl : ByteArray) (q : Int) (tn : ByteArray) (at_ : List (ByteArray × ByteArray)) (v : Value), s8 = .int .i64 z ∧ z = (k : Int) ∧ s9 = .bool sl ∧ s10 = .string nm ∧ s11 = .string vl ∧ s12 = .int .u8 q ∧ s13 = .int .i64 i ∧ i ≤ n ∧ n - i ≤ kx ∧ k ≤ 6 ∧ Hid (RT s w wr kd i ⟨k, sl, nm, vl, q, tn, at_⟩ v M))
  case atStart => exact ⟨fr, 0, 0, false, ⟨#[]⟩, ⟨#[]⟩, 0, ⟨#[]⟩, [], .slice none 0 0, rfl, rfl, rfl, rfl, rfl, rfl, rfl, hi, by omega, by omega, HRT0⟩
  case round =>
    rename_i J K hJ hK
    obtain ⟨i, k, z, sl, nm, vl, q, tn, at_, v, rfl, hzk, rfl, rfl, rfl, rfl, rfl, hin, hg, hk, HRT⟩ := hrel
    by_cases hlt : i < n
    · have hks : z = 0 ∨ z = 1 ∨ z = 2 ∨ z = 3 ∨ z = 4 ∨ z = 5 ∨ z = 6 := by omega
      rcases hks with rfl | rfl | rfl | rfl | rfl | rfl | rfl
      · obtain rfl : k = 0 := by omega
        exact rt_case0 b off n cap fr kd s hi hcap hc63 hm w hbB HZ HN M HM gk wr J K _ hJ hK (hid fun _ _ h => h) i sl nm vl q tn at_ v hin hg hlt HRT _ _ _ _ _ _ _ _ _ _ _ _ _ _ _ _ _ _ _ _ _ _ _ _ _ _ _ _ _ _ _ _ _ _ _ _ _ _ _ _ _ _ _ _ _ _ _ _ _ _ _ _ _ _ _ _ _ _ _ _ _ _ _ _ _ _ _ _ _ _ _ _ _ _ _ _ _ _ _ _ _ _ _ _ _ _ _ _ _ _ _ _ _ _ _ _ _ _ _ _ _ _ _ _ _ _ _ _ _ _ _ _ _ _ _ _ _ _ _ _ _ _ _ _ _ _ _ _ _ _ _ _ _ _ _ _ _ _ _ _ _ _ _ _ _ _ _ _ _ _ _ _ _ _ _ _ _ _ _ _ _ _ _ _ _ _ _ _ _ _ _ _ _
      · obtain rfl : k = 1 := by omega
        exact rt_case1 b off n cap fr kd s hi hcap hc63 hm w hbB HZ HN M HM gk wr J K _ _ hJ hK (hid fun _ _ h => h) i sl nm vl q tn at_ v hin hg hlt HRT _ _ _ _ _ _ _ _ _ _ _ _ _ _ _ _ _ _ _ _ _ _ _ _ _ _ _ _ _ _ _ _ _ _ _ _ _ _ _ _ _ _ _ _ _ _ _ _ _ _ _ _ _ _ _ _ _ _ _ _ _ _ _ _ _ _ _ _ _ _ _ _ _ _ _ _ _ _ _ _ _ _ _ _ _ _ _ _ _ _ _ _ _ _ _ _ _ _ _ _ _ _ _ _ _ _ _ _ _ _ _ _ _ _ _ _ _ _ _ _ _ _ _ _ _ _ _ _ _ _ _ _ _ _ _ _ _ _ _ _ _ _ _ _ _ _ _ _ _ _ _ _ _ _ _ _ _ _ _ _ _ _ _ _ _ _ _ _ _ _ _ _ _
      · obtain rfl : k = 2 := by omega
        exact rt_case2 b off n cap fr kd s hi hcap hc63 hm w hbB HZ HN M HM gk wr J K _ _ hJ hK (hid fun _ _ h => h) i sl nm vl q tn at_ v hin hg hlt HRT _ _ _ _ _ _ _ _ _ _ _ _ _ _ _ _ _ _ _ _ _ _ _ _ _ _ _ _ _ _ _ _ _ _ _ _ _ _ _ _ _ _ _ _ _ _ _ _ _ _ _ _ _ _ _ _ _ _ _ _ _ _ _ _ _ _ _ _ _ _ _ _ _ _ _ _ _ _ _ _ _ _ _ _ _ _ _ _ _ _ _ _ _ _ _ _ _ _ _ _ _ _ _ _ _ _ _ _ _ _ _ _ _ _ _ _ _ _ _ _ _ _ _ _ _ _ _ _ _ _ _ _ _ _ _ _ _ _ _ _ _ _ _ _ _ _ _ _ _ _ _ _ _ _ _ _ _ _ _ _ _ _ _ _ _ _ _ _ _ _ _ _ _
      · obtain rfl : k = 3 := by omega
        exact rt_case3 b off n cap fr kd s hi hcap hc63 hm w hbB HZ HN M HM gk wr J K _ _ hJ hK (hid fun _ _ h => h) i sl nm vl q tn at_ v hin hg hlt HRT _ _ _ _ _ _ _ _ _ _ _ _ _ _ _ _ _ _ _ _ _ _ _ _ _ _ _ _ _ _ _ _ _ _ _ _ _ _ _ _ _ _ _ _ _ _ _ _ _ _ _ _ _ _ _ _ _ _ _ _ _ _ _ _ _ _ _ _ _ _ _ _ _ _ _ _ _ _ _ _ _ _ _ _ _ _ _ _ _ _ _ _ _ _ _ _ _ _ _ _ _ _ _ _ _ _ _ _ _ _ _ _ _ _ _ _ _ _ _ _ _ _ _ _ _ _ _ _ _ _ _ _ _ _ _ _ _ _ _ _ _ _ _ _ _ _ _ _ _ _ _ _ _ _ _ _ _ _ _ _ _ _ _ _ _ _ _ _ _ _ _ _ _
      · obtain rfl : k = 4 := by omega
        exact rt_case4 b off n cap fr kd s hi hcap hc63 hm w hbB HZ HN M HM gk wr J K _ _ hJ hK (hid fun _ _ h => h) i sl nm vl q tn at_ v hin hg hlt HRT _ _ _ _ _ _ _ _ _ _ _ _ _ _ _ _ _ _ _ _ _ _ _ _ _ _ _ _ _ _ _ _ _ _ _ _ _ _ _ _ _ _ _ _ _ _ _ _ _ _ _ _ _ _ _ _ _ _ _ _ _ _ _ _ _ _ _ _ _ _ _ _ _ _ _ _ _ _ _ _ _ _ _ _ _ _ _ _ _ _ _ _ _ _ _ _ _ _ _ _ _ _ _ _ _ _ _ _ _ _ _ _ _ _ _ _ _ _ _ _ _ _ _ _ _ _ _ _ _ _ _ _ _ _ _ _ _ _ _ _ _ _ _ _ _ _ _ _ _ _ _ _ _ _ _ _ _ _ _ _ _ _ _ _ _ _ _ _ _ _ _ _ _
      · obtain rfl : k = 5 := by omega
        exact rt_case5 b off n cap fr kd s hi hcap hc63 hm w hbB HZ HN M HM gk wr J K _ _ hJ hK (hid fun _ _ h => h) i sl nm vl q tn at_ v hin hg hlt HRT _ _ _ _ _ _ _ _ _ _ _ _ _ _ _ _ _ _ _ _ _ _ _ _ _ _ _ _ _ _ _ _ _ _ _ _ _ _ _ _ _ _ _ _ _ _ _ _ _ _ _ _ _ _ _ _ _ _ _ _ _ _ _ _ _ _ _ _ _ _ _ _ _ _ _ _ _ _ _ _ _ _ _ _ _ _ _ _ _ _ _ _ _ _ _ _ _ _ _ _ _ _ _ _ _ _ _ _ _ _ _ _ _ _ _ _ _ _ _ _ _ _ _ _ _ _ _ _ _ _ _ _ _ _ _ _ _ _ _ _ _ _ _ _ _ _ _ _ _ _ _ _ _ _ _ _ _ _ _ _ _ _ _ _ _ _ _ _ _ _ _ _ _
      · obtain rfl : k = 6 := by omega
        exact rt_case6 b off n cap fr kd s hi hcap hc63 hm w hbB HZ HN M HM gk wr J K _ _ hJ hK (hid fun _ _ h => h) i sl nm vl q tn at_ v hin hg hlt HRT _ _ _ _ _ _ _ _ _ _ _ _ _ _ _ _ _ _ _ _ _ _ _ _ _ _ _ _ _ _ _ _ _ _ _ _ _ _ _ _ _ _ _ _ _ _ _ _ _ _ _ _ _ _ _ _ _ _ _ _ _ _ _ _ _ _ _ _ _ _ _ _ _ _ _ _ _ _ _ _ _ _ _ _ _ _ _ _ _ _ _ _ _ _ _ _ _ _ _ _ _ _ _ _ _ _ _ _ _ _ _ _ _ _ _ _ _ _ _ _ _ _ _ _ _ _ _ _ _ _ _ _ _ _ _ _ _ _ _ _ _ _ _ _ _ _ _ _ _ _ _ _ _ _ _ _ _ _ _ _ _ _ _ _ _ _ _ _ _ _ _ _ _
    · skip
      have hlt' : ¬ (i : Int) < (n : Int) := by omega
      obtain rfl : i = n := by omega
      have hE := fromT_end s kd i ⟨k, sl, nm, vl, q, tn, at_⟩ (by have := HN.out; omega)
      rw [HRT.out.go, ← HN.out] at hE
      have HE := hid hE
      have tsz := HRT.out.sz
      simp only at tsz
      have TSZ := hid tsz
      have HCH : Hid ((1 : Nat) = 1) := rfl
      have hvs := owns_slice HRT.out.own
      obtain ⟨A0, cp0, rfl⟩ := hvs
      have c0 := HRT.out.blk.cell 0
      have r0 := HRT.out.res.cell 0
      have c1 := HRT.out.blk.cell 1
      have r1 := HRT.out.res.cell 1
      have c2 := HRT.out.blk.cell 2
      have r2 := HRT.out.res.cell 2
      have c3 := HRT.out.blk.cell 3
      have r3 := HRT.out.res.cell 3
      have c4 := HRT.out.blk.cell 4
      have r4 := HRT.out.res.cell 4
      have c5 := HRT.out.blk.cell 5
      have r5 := HRT.out.res.cell 5
      have frg := HRT.out.blk.frozen
      have frr := HRT.out.res.frozen
      simp only [rfC, tag0, List.getElem?_toArray, List.getElem?_cons_zero, List.getElem?_cons_succ] at c0 c1 c2 c3 c4 c5 r0 r1 r2 r3 r4 r5
      clear tsz hE
      by_cases hz2' : (2 : Int) ≤ z
      · have hk2 : 2 ≤ k := by omega
        have HE2 := hid (show M = ⟨kd, i, tn, at_ ++ [(nm, vl)], false, false⟩ by rw [HE.out]; simp only; rw [if_pos hk2])
        clear hzk hk hk2 c0 c1 c2 c4 c5 r0 r1 r2 r3 r4 r5 frr HE
        go_wp2_with (at_builtin; go_must (refine wpList_append_any _ rfl (.tmp 193) (.tmp 197) 29 rfl (w.heap.size + 2) 43 i0 (.agg #[.string ⟨#[]⟩, .string ⟨#[]⟩]) 2 32 Try.underlying29 hi0 hz0 hz1 hz2 rfl (by decide) _ at_.length (atCells at_) rfl (HRT.out.own.alloc _) _ (some ⟨wr.heap.size, 0, none⟩) 1 1 [.string nm, .string vl] rfl (reads_blk2 (Blk.new wr _ _)) (by simp [Value.oneCell']) (by have := TSZ.out; unfold maxLen; omega) (by have := TSZ.out; omega) (by have := HRT.out.blk.lt; simp; omega) ?_); intro v' w2 ho2 hg2 hl2; obtain ⟨A2, c2, rfl⟩ := owns_slice ho2; have hv2 := own_ge HRT.out.own; have hblk2 := (HRT.out.blk.alloc _).grown hg2 (fun e => by have := hv2 _ e.symm; omega); have hres2 := (HRT.out.res.alloc _).grown hg2 (fun e => by have := hv2 _ e.symm; omega); have k0 := hblk2.cell 0; have j0 := hres2.cell 0; have k1 := hblk2.cell 1; have j1 := hres2.cell 1; have k2 := hblk2.cell 2; have j2 := hres2.cell 2; have k3 := hblk2.cell 3; have j3 := hres2.cell 3; have k4 := hblk2.cell 4; have j4 := hres2.cell 4; have k5 := hblk2.cell 5; have j5 := hres2.cell 5; have frk := hblk2.frozen; have frj := hres2.frozen; simp only [rfC, tag0, List.getElem?_toArray, List.getElem?_cons_zero, List.getElem?_cons_succ] at k0 k1 k2 k3 k4 k5 j0 j1 j2 j3 j4 j5; have HO2 := hid ho2; have HG2 := hid hg2; clear ho2 hg2 hl2 hv2 hblk2 hres2)
        have HFIN := hid ((HRT.out.app (k' := 1) (sl' := false) (nm' := nm) (vl' := vl) HO2.out HG2.out rfl (by have := TSZ.out; have := HCH.out; first | exact Nat.zero_le _ | omega | (rw [ByteArray.size_append]; omega) | (rw [lowerB_size]; omega) | (rw [ByteArray.size_append, lowerB_size]; omega)) (by have := TSZ.out; have := HCH.out; first | exact Nat.zero_le _ | omega | (rw [ByteArray.size_append]; omega) | (rw [lowerB_size]; omega) | (rw [ByteArray.size_append, lowerB_size]; omega))).ret1 i ⟨kd, i, tn, at_ ++ [(nm, vl)], false, false⟩ rfl)
        (try simp only [Exit.inBlock, Exit.then])
        rw [HM.out, HE2.out]
        exact bodyPost_ret (results_cell_row rfl _ _ w.heap.size _ _ _ _ rfl HFIN.out.1 Try.underlying31 rfl (by kernel_rfl)) rfl ⟨_, rfl, HFIN.out.2.1, HFIN.out.2.2⟩
      · have hk2 : ¬ 2 ≤ k := by omega
        have HE2 := hid (show M = ⟨kd, i, tn, at_, false, false⟩ by rw [HE.out]; simp only; rw [if_neg hk2])
        have HFIN := hid (HRT.out.ret1 i ⟨kd, i, tn, at_, false, false⟩ rfl)
        clear hzk hk hk2 HE
        go_wp2_with fail
        (try simp only [Exit.inBlock, Exit.then])
        rw [HM.out, HE2.out]
        exact bodyPost_ret (results_cell_row rfl _ _ w.heap.size _ _ _ _ rfl HFIN.out.1 Try.underlying31 rfl (by kernel_rfl)) rfl ⟨_, rfl, HFIN.out.2.1, HFIN.out.2.2⟩
end Go.Proofs.Ytpkbmgpbagdalaa
