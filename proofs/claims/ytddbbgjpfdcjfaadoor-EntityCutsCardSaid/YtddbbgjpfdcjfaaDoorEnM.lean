/- Chapter 16: entity.Open: the walk. -/
import Derived.Test.YtddbbgjpfdcjfaaDoorEnL
namespace Go.Proofs.YtddbbgjpfdcjfaaDoor
open Go.RowKit
open Go.Shelf
open Go.Lib (hid)
set_option linter.unusedVariables false

theorem conv_tail {W : World} {b off n cap k : Nat} {s : ByteArray} (hz : Lib.Bytes W b off s) (hn : n = s.size) (hcap : n ≤ cap) (hk : k ≤ n) : (convert 22 9 (.slice (some ⟨b, offIf cap k off, none⟩) (n - k) (cap - k))).run Tryd.prog W = .ok (.string (s.extract k s.size)) W := by
  unfold offIf
  by_cases hc : cap = k
  · rw [if_pos hc]
    have h0 : n - k = 0 := by omega
    have := conv_head hz 0 (cap - k) (Nat.zero_le _)
    rw [h0, this]
    congr 2
    apply ext_byt
    · rw [ByteArray.size_extract, ByteArray.size_extract]; omega
    · intro i hi
      rw [ByteArray.size_extract] at hi
      omega
  · rw [if_neg hc, hn]
    exact conv_sub hz k s.size (cap - k) (by omega) (Nat.le_refl _)
theorem names_at {w : World} {B : Nat} {v : Value} (h : w.ownsRow B 9 1 v 26 (strsOf names)) : ∃ g c, v = .slice (some ⟨g, 0, none⟩) 26 c ∧ B ≤ g ∧ g < w.heap.size ∧ ∀ j, j < 26 → w.cell? ⟨g, j, none⟩ = some (.string (nameAt j).1) := by
  obtain ⟨A, c, rfl, h1, h2, hc⟩ := owns_form h
  obtain ⟨g, rfl, hB, hg, hcell⟩ := hc (by decide)
  refine ⟨g, c, rfl, hB, hg, fun j hj => ?_⟩
  have hl : j < names.length := by rw [names_len]; exact hj
  rw [hcell j (by omega)]
  unfold strsOf
  rw [List.getElem?_map, List.getElem?_eq_getElem hl, nameAt_is hl]
  rfl

set_option maxRecDepth 100000 in
set_option maxHeartbeats 8000000 in
theorem entopen_any (a : Option Addr) (n cap : Nat) (s : ByteArray) (w : World) (hb : BA w a n cap s) (hm : n ≤ 1000000) :
    Calls Tryd.prog 11 #[.slice a n cap] w fun e w' => e = .returned (.bool (entO s)) ∧ Below w.heap.size w w' := by
  have hns := hb.1
  by_cases hn0 : n = 0
  · subst hn0
    have HR := hid (show entO s = false by unfold entO; rw [decide_eq_false (by omega), Bool.false_and])
    clear hb hns
    go_enter Tryd.func11, Tryd.ntmps11
    go_wp2_with fail
    go_ret
    exact ⟨ret_bool HR.out.symm, Below.refl _ _⟩
  have hcap := hb.2.1
  have hc63 := hb.2.2.1
  obtain ⟨b, off, rfl, hbl, hz⟩ := hb.2.2.2 (by omega)
  have hcell := bytes_cell hz (i := 0) (by omega)
  rw [Nat.add_zero] at hcell
  have hn0b : ((n : Int) == 0) = false := by rw [beq_eq_false_iff_ne]; omega
  have hnp : (0 : Int) < (n : Int) := by omega
  by_cases h38 : byt s 0 ≠ 38
  · have HR := hid (show entO s = false by unfold entO; rw [decide_eq_false (fun h => h38 h.2.1), Bool.false_and])
    generalize byt s 0 = c at *
    have hcb : (c == 38) = false := by simpa using h38
    have hcb2 : (c != 38) = true := by simpa using h38
    clear hb hz h38 hns hn0
    go_enter Tryd.func11, Tryd.ntmps11
    go_wp2_with fail
    go_ret
    exact ⟨ret_bool HR.out.symm, Below.refl _ _⟩
  have h38 : byt s 0 = 38 := Classical.byContradiction h38
  have ht38 := h38
  rw [h38] at hcell
  have hzt : ∀ W, Below w.heap.size w W → Lib.Bytes W b off s := fun W hW => Bytes.keepAt hz fun k => hW.cell (p := ⟨b, k, none⟩) hbl
  have hm0 : 0 < n := by omega
  have HFO := hid (formOf_any b off n cap s w hns hcap hm0 hm hz hbl ht38)
  have hrun := fun W (hW : Below w.heap.size w W) => run_any b off n cap s W hns hcap hm0 hm (hzt W hW) (Nat.lt_of_lt_of_le hbl hW.size)
  obtain ⟨f1, f2, f3, f4, f5⟩ := fm_facts s (by omega)
  have hEO : entO s = (decide (n ≤ runE s) && (decide ((fmOf s).base ≠ 0) || names.any fun x => preB x.1 (s.extract (fmOf s).skip s.size))) := by
    unfold entO
    congr 1
    rw [hns]
    exact decide_eq_decide.2 ⟨fun h => h.2.2, fun h => ⟨by omega, ht38, h⟩⟩
  have hfmV : fmV (fmOf s) = #[.int .i64 (fmOf s).skip, .int .i64 (fmOf s).most, .func (.func (gOf (fmOf s))) #[] #[], .int .i64 (fmOf s).base] := rfl
  rw [hfmV] at HFO hrun
  generalize gOf (fmOf s) = gf at *
  generalize (fmOf s).most = mo at *
  generalize hba : (fmOf s).base = ba at *
  generalize (fmOf s).skip = sk at *
  clear hba f5
  generalize runE s = e at *
  generalize entO s = R at *
  have HEO := hid hEO
  have HZT := hid hzt
  have HRUN := hid hrun
  have HNS := hid hns
  clear hEO hzt hrun hfmV hb hz hns ht38 h38
  go_enter Tryd.func11, Tryd.ntmps11
  go_wp2_with fail
  refine HFO.out.mono ?_
  rintro e2 w2 ⟨rfl, hb2⟩
  go_upto_region 4 with ((with_reducible refine wpList_store_row (o := ⟨none, .store 43 (.tmp 3) (.tmp 16), _, _, _, _⟩) rfl 43 _ _ rfl w2.heap.size #[.int .i64 sk, .int .i64 mo, .func (.func gf) #[] #[], .int .i64 ba] rfl rfl 43 #[.int .i64 0, .int .i64 0, .nilFunc, .int .i64 0] (heap_alloc_new _ _) (by kernel_rfl) (by kernel_rfl) (by kernel_rfl) ?_))
  have hr3 : Blk ((w2.alloc (.cells #[.int .i64 0, .int .i64 0, .nilFunc, .int .i64 0] 43)).setRow w2.heap.size #[.int .i64 sk, .int .i64 mo, .func (.func gf) #[] #[], .int .i64 ba]) w2.heap.size 43 #[.int .i64 sk, .int .i64 mo, .func (.func gf) #[] #[], .int .i64 ba] := setRow_heap _ _ _ _ _ _ (heap_alloc_new w2 _)
  have hb3 : Below w.heap.size w ((w2.alloc (.cells #[.int .i64 0, .int .i64 0, .nilFunc, .int .i64 0] 43)).setRow w2.heap.size #[.int .i64 sk, .int .i64 mo, .func (.func gf) #[] #[], .int .i64 ba]) := by
    have hg := hb2.size
    refine hb2.trans ?_
    exact ⟨rfl, rfl, rfl, by simp, fun k hk => by rw [setRow_other _ _ _ _ (by omega)]; exact Below.heap_alloc _ _ _ (by omega)⟩
  generalize (w2.alloc (.cells #[.int .i64 0, .int .i64 0, .nilFunc, .int .i64 0] 43)).setRow w2.heap.size #[.int .i64 sk, .int .i64 mo, .func (.func gf) #[] #[], .int .i64 ba] = w3 at *
  have k0 := hr3.cell 0
  have k1 := hr3.cell 1
  have k2 := hr3.cell 2
  have k3 := hr3.cell 3
  simp only [List.getElem?_toArray, List.getElem?_cons_zero, List.getElem?_cons_succ] at k0 k1 k2 k3
  have HB3 := hid hb3
  have HR3 := hid hr3
  have HRN := hid (HRUN.out w3 hb3)
  clear hb3 hr3 hb2 hcell
  go_wp2_with fail
  refine HRN.out.mono ?_
  rintro e2 w4 ⟨rfl, hb4⟩
  have hr4 := HR3.out.below hb4 HR3.out.lt
  have HB4 := hid (HB3.out.trans (hb4.mono HB3.out.size))
  have k0 := hr4.cell 0
  have k1 := hr4.cell 1
  have k3 := hr4.cell 3
  simp only [List.getElem?_toArray, List.getElem?_cons_zero, List.getElem?_cons_succ] at k0 k1 k3
  obtain ⟨k, hk⟩ : ∃ k, k = e - sk := ⟨_, rfl⟩
  rw [← hk]
  have hke : (sk : Int) + (k : Int) = (e : Int) := by omega
  have hwe : IntKind.i64.wrap (e : Int) = (e : Int) := IntWalk.i64_in _ (by have := HNS.out; omega)
  have HR4 := hid hr4
  clear hk hb4 hr4 HRN HRUN HFO
  by_cases hme : e < n
  · have hme' : (e : Int) < (n : Int) := by omega
    have HR := hid (show R = false by rw [HEO.out, decide_eq_false (by omega), Bool.false_and])
    go_wp2_with fail
    go_ret
    exact ⟨ret_bool HR.out.symm, HB4.out⟩
  have hme' : ¬ (e : Int) < (n : Int) := by omega
  have heo := HEO.out
  rw [decide_eq_true (by omega), Bool.true_and] at heo
  have hskn : sk ≤ n := by have := HNS.out; omega
  have hmin : min (sk : Int) (n : Int) = (sk : Int) := by omega
  have hsl := fun W => slice_tail b off n cap sk hskn hcap W
  have hcv := conv_tail (HZT.out w4 HB4.out) HNS.out hcap hskn
  have hxz : (s.extract sk s.size).size ≤ 1000000 := by rw [ByteArray.size_extract]; have := HNS.out; omega
  generalize s.extract sk s.size = x at *
  generalize offIf cap sk off = ofs at *
  have HEO2 := hid heo
  have HXZ := hid hxz
  clear heo hxz HEO hn0
  go_upto_region 8 with fail
  have hb5 := (Below.refl w4.heap.size w4).alloc (Nat.le_refl _) (.cells #[.string x] 9)
  have hr5 := HR4.out.below hb5 HR4.out.lt
  have hx5 := (Blk.new w4 9 #[.string x]).cell 0
  have hl5 : w4.heap.size < (w4.alloc (.cells #[.string x] 9)).heap.size := by simp
  have HB5 := hid (HB4.out.trans (hb5.mono HB4.out.size))
  generalize w4.alloc (.cells #[.string x] 9) = w5 at *
  have k3 := hr5.cell 3
  simp only [List.getElem?_toArray, List.getElem?_cons_zero, List.getElem?_cons_succ] at k3 hx5
  have HX5 := hid hx5
  clear hb5 hr5 hx5 hcv hsl hmin
  by_cases hba : ba = 0
  · subst hba
    have heo := HEO2.out
    rw [show decide ((0 : Nat) ≠ 0) = false from rfl, Bool.false_or] at heo
    have HE := hid heo
    clear heo
    go_wp2_with fail
    refine (names_any w5).mono ?_
    rintro e2 w6 ⟨v6, rfl, ho6, hb6⟩
    obtain ⟨g, c, rfl, hB6, hg6, hc6⟩ := names_at ho6
    have hx6 := (hb6.cell (p := ⟨w4.heap.size, 0, none⟩) hl5).trans HX5.out
    have HCO := hid (contains_any g c w4.heap.size x w6 hg6 hc6 hx6 (by have := HXZ.out; omega))
    have HB6 := hid (HB5.out.trans (hb6.mono HB5.out.size))
    clear ho6 hB6 hc6 hx6 hb6
    go_wp2_with fail
    refine HCO.out.mono ?_
    rintro e2 w7 ⟨rfl, hw7⟩
    obtain rfl : w6 = w7 := hw7.symm
    go_wp2_with fail
    go_ret
    exact ⟨ret_bool HE.out.symm, HB6.out⟩
  · have hba0 : (0 : Int) < (ba : Int) := by omega
    have heo := HEO2.out
    rw [decide_eq_true hba, Bool.true_or] at heo
    have HE := hid heo
    clear heo
    go_wp2_with fail
    go_ret
    exact ⟨ret_bool HE.out.symm, HB5.out⟩
end Go.Proofs.YtddbbgjpfdcjfaaDoor
