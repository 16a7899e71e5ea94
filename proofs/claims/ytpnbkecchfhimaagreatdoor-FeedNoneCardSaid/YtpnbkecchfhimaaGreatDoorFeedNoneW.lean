/- The walk of the law FeedNone. -/
import Derived.Test.YtpnbkecchfhimaaGreatDoorFdLaid
import Derived.Test.YtpnbkecchfhimaaGreatDoorFdR
import Derived.StillTailTactics
import Derived.BigQuiet
import Derived.Test.YtpnbkecchfhimaaGreatDoorOpen
namespace Go.Proofs.YtpnbkecchfhimaaGreatDoor.feedNone
open Go.RowKit Go.Shelf
open Go.Lib (hid)
set_option linter.unusedVariables false
set_option linter.unusedSimpArgs false
set_option maxRecDepth 100000

theorem noB_app : noB ++ noB = noB := by kernel_rfl
theorem noB_setN : setN noB = 0 := by kernel_rfl
theorem noB_toks : toks noB = [] := by kernel_rfl
theorem noB_ext (p : Nat) : (noB.extract p noB.size).size = 0 := by rw [noB_extract]; rfl
theorem bytesF_no {was : ByteArray} (h : was.size = 0) (wa : Nat) (fr til : Int) : (bytesF was wa fr til).size = 0 := by
  unfold bytesF
  split
  · rw [ByteArray.size_extract]; omega
  · rfl
set_option maxHeartbeats 8000000 in
theorem walk (b : Option Addr) (bLen bCap : Nat) (bD : List Int) (fr : Int) (til : Int) (w : World) (w0 : IsRow .u8 w b bLen bCap bD) (w1 : (Lit.int .i64 fr).wf = true) (w2 : (Lit.int .i64 til).wf = true) (hsh : w.ShapedOpen Tryz.prog) (hdb : Hx.Db w) :
    Calls Tryz.prog 6 #[.slice b bLen bCap, .int .i64 fr, .int .i64 til] w fun e w' => e = .returned (.bool true) ∧ Below w.heap.size w w' := by
  have hmx := mx_of hsh
  have HAW := hid (fun W (h : Below w.heap.size w W) => fdawake_any W (hdb.below h (Nat.le_refl _)) (hmx.below h (Nat.le_refl _)))
  by_cases hbig : 200 < bLen
  · have hbig' : (200 : Int) < (bLen : Int) := by omega
    clear w0 w1 w2
    go_enter Tryz.func6, Tryz.ntmps6
    go_wp2_with fail
    refine (HAW.out _ (Below.refl _ _)).mono ?_
    rintro e w2 ⟨rfl, hb2⟩
    have HB2 := hid hb2
    clear hb2
    go_wp2_with fail
    go_ret
    exact ⟨rfl, HB2.out⟩
  have hbig' : ¬ (200 : Int) < (bLen : Int) := by omega
  have HMX := hid hmx
  have HN1 := hid (fun W => feed_nil b bLen bCap W)
  have HN2 := hid (fun W => close_nil W)
  have HN3 := hid (fun W => waits_nil W)
  have HN4 := hid (fun W => fed_nil W)
  have HN5 := hid (fun W => bytes_nil 0 fr til ⟨#[]⟩ 0 false W)
  clear w0 w1 w2 hmx hdb hsh
  go_enter Tryz.func6, Tryz.ntmps6
  go_wp2_with fail
  refine (HAW.out _ (Below.refl _ _)).mono ?_
  rintro e w2 ⟨rfl, hb2⟩
  have HB2 := hid hb2
  have HB4 := hid (hb2.alloc hb2.size (.cells #[.int .i64 0, .int .i64 fr, .int .i64 til, .string ⟨#[]⟩, .int .i32 0, .bool false] 29))
  have q := Blk.new w2 29 #[.int .i64 0, .int .i64 fr, .int .i64 til, .string ⟨#[]⟩, .int .i32 0, .bool false]
  have HQ := hid q
  have hg4 : w2.heap.size < (w2.alloc (.cells #[.int .i64 0, .int .i64 fr, .int .i64 til, .string ⟨#[]⟩, .int .i32 0, .bool false] 29)).heap.size := by simp
  clear hb2 q
  go_upto_region 5 with fail
  generalize w2.alloc (.cells #[.int .i64 0, .int .i64 fr, .int .i64 til, .string ⟨#[]⟩, .int .i32 0, .bool false] 29) = w4 at *
  have z0 := HQ.out.cell 0
  have z1 := HQ.out.cell 1
  have z2 := HQ.out.cell 2
  have z3 := HQ.out.cell 3
  have z4 := HQ.out.cell 4
  have z5 := HQ.out.cell 5
  simp only [List.getElem?_toArray, List.getElem?_cons_zero, List.getElem?_cons_succ] at z0 z1 z2 z3 z4 z5
  go_wp2_with fail
  refine (HN1.out _).mono ?_
  rintro e w7 ⟨rfl, hw⟩
  obtain rfl := hw
  go_wp2_with fail
  refine (HN2.out _).mono ?_
  rintro e w7 ⟨rfl, hw⟩
  obtain rfl := hw
  go_wp2_with fail
  refine (HN3.out _).mono ?_
  rintro e w7 ⟨rfl, hw⟩
  obtain rfl := hw
  go_wp2_with fail
  refine (HN4.out _).mono ?_
  rintro e w7 ⟨rfl, hw⟩
  obtain rfl := hw
  go_wp2_with fail
  refine (HN5.out _).mono ?_
  rintro e w8 ⟨rfl, hb8⟩
  have HB8 := hid (HB4.out.trans (hb8.mono HB4.out.size))
  have HQ8 := hid (HQ.out.below hb8 hg4)
  clear hb8 z0 z1 z2 z3 z4 z5 HN1 HN2 HN3 HN4 HN5 HQ HB4
  go_wp2_with fail
  refine (fdNew_any w8).mono ?_
  rintro e w9 ⟨rfl, hf9, hb9⟩
  have HB9 := hid (HB8.out.trans (hb9.mono HB8.out.size))
  have HQ9 := hid (HQ8.out.below hb9 HQ8.out.lt)
  have hs8 := HB8.out.size
  have hql := HQ8.out.lt
  have HF9 := hid (feed_any w8.heap.size noB noB 0 0 noB 0 0 0 none 0 0 w9 hf9 FdOk.zero ⟨rfl, Nat.le_refl _, by decide, fun h => absurd h (by decide)⟩ (fun h => absurd h (by decide)) (HMX.out.below HB9.out (Nat.le_refl _)) (mx_ne HMX.out hs8) (by rw [noB_app]; decide) (by decide) (by decide))
  clear hb9 hf9 HAW HQ8
  go_wp2_with fail
  refine HF9.out.mono ?_
  rintro e w10 hp
  unfold FeedPost at hp
  rw [noB_app, noB_setN] at hp
  obtain ⟨v1, m1, k1, rfl, hr1, hf10, hok10, hmk, hgr10, _⟩ := hp
  obtain ⟨A1, c1, rfl⟩ := owns_slice hr1
  obtain rfl : m1 = 0 := by omega
  obtain rfl : k1 = 0 := by omega
  have HB10 := hid (below_new HB9.out hgr10 hs8 HB9.out.size)
  have HQ10 := hid (HQ9.out.grown hgr10 (fun e => by injection e with e; omega))
  have HC10 := hid (close_any w8.heap.size noB 0 0 _ _ _ _ w10 hf10 hok10 (HMX.out.below HB10.out (Nat.le_refl _)) (mx_ne HMX.out hs8) (by decide))
  rw [noB_toks] at HC10
  clear hr1 hf10 hok10 hmk hgr10 HF9 HQ9
  go_wp2_with fail
  refine HC10.out.mono ?_
  rintro e w11 ⟨v2, m2, k2, rfl, hr2, hf11, hgr11⟩
  obtain ⟨A2, c2, rfl⟩ := owns_slice hr2
  have HB11 := hid (below_new HB10.out hgr11 hs8 HB10.out.size)
  have HQ11 := hid (HQ10.out.grown hgr11 (fun e => by injection e with e; omega))
  have HSH := hid (feed_shut _ _ _ _ _ _ _ _ b bLen bCap w11 hf11)
  have HFD := hid (fed_any _ _ _ _ _ _ _ _ _ w11 hf11)
  have HBY := hid (fbytes_any _ _ _ _ _ _ _ _ _ 0 fr til ⟨#[]⟩ 0 false w11 hf11 (Nat.zero_le _) (by rw [noB_ext]; decide))
  have z0 := HQ11.out.cell 0
  have z1 := HQ11.out.cell 1
  have z2 := HQ11.out.cell 2
  have z3 := HQ11.out.cell 3
  have z4 := HQ11.out.cell 4
  have z5 := HQ11.out.cell 5
  simp only [List.getElem?_toArray, List.getElem?_cons_zero, List.getElem?_cons_succ] at z0 z1 z2 z3 z4 z5
  clear hr2 hf11 hgr11 HC10 HQ10 HQ11
  go_wp2_with fail
  refine HSH.out.mono ?_
  rintro e w12 ⟨rfl, hw⟩
  obtain rfl := hw
  go_wp2_with fail
  refine HFD.out.mono ?_
  rintro e w12 ⟨rfl, hw⟩
  obtain rfl := hw
  go_wp2_with fail
  refine HBY.out.mono ?_
  rintro e w13 ⟨A3, n3, c3, rfl, hba3, hb13⟩
  have hn3 : n3 = 0 := by rw [hba3.1]; exact bytesF_no (noB_ext _) _ _ _
  subst hn3
  have HB13 := hid (HB11.out.trans (hb13.mono HB11.out.size))
  clear hba3 hb13
  go_wp2_with fail
  go_ret
  exact ⟨rfl, HB13.out⟩
end Go.Proofs.YtpnbkecchfhimaaGreatDoor.feedNone
