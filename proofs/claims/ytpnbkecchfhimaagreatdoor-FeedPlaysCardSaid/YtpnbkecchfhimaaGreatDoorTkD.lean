/- Chapter 19: what begins at a place, but a text; where a text ends: the walks. -/
import Derived.Test.YtpnbkecchfhimaaGreatDoorTkC
namespace Go.Proofs.YtpnbkecchfhimaaGreatDoor
open Go.RowKit
open Go.Lib (hid)
set_option linter.unusedVariables false
set_option maxRecDepth 100000

theorem retSp_of {w : World} {s : ByteArray} {i k : Nat} {kd r : Int} (hsp : specA s i = if 0 < k then some ⟨kd, k, noB, r, false, false⟩ else none)
    {e : Ending} {W : World} (he : e = .returned (.tuple #[.agg #[.int .i64 kd, .int .i64 i, .int .i64 ((i : Int) + (k : Int)), .string ⟨#[]⟩, .int .i32 r, .bool false], .bool (decide (0 < k)), .bool false])) (hW : Below w.heap.size w W) : RetSp w e W s i := by
  refine ⟨⟨kd, i, i + k, noB, r, false⟩, false, ?_, fun sp h => ?_, hW⟩
  · have : specB s i = decide (0 < k) := by
      unfold specB
      rw [hsp]
      by_cases h : 0 < k
      · rw [if_pos h, decide_eq_true h]; rfl
      · rw [if_neg h, decide_eq_false h]; rfl
    rw [he, this]
    rfl
  · rw [hsp] at h
    split at h
    · injection h with h
      subst h
      exact ⟨rfl, rfl⟩
    · cases h
theorem cell_drewT (w : World) (a : Addr) : w.drew.cell? a = w.cell? a := rfl
theorem sSet_farD {w : World} {r q j : Nat} {k f t : Int} {nm : ByteArray} {z : Int} {sg : Bool} {u : Value} (hne : r ≠ q) (h : w.cell? ⟨q, j, none⟩ = some u) : (sSet w r k f t nm z sg).drew.cell? ⟨q, j, none⟩ = some u := (cell_drewT _ _).trans ((sSet_far hne).trans h)
theorem dec_cast (k : Nat) : decide ((0 : Int) < (k : Int)) = decide (0 < k) := by
  by_cases h : 0 < k
  · rw [decide_eq_true h, decide_eq_true (by omega)]
  · rw [decide_eq_false h, decide_eq_false (by omega)]
set_option maxHeartbeats 4000000 in
theorem special_ent (b off n cap i : Nat) (s : ByteArray) (w : World) (hb : BA w (some ⟨b, off, none⟩) n cap s) (hm : n ≤ 1000000) (hi : i < n) (h38 : byt s i = 38) :
    Calls Tryz.prog 65 #[.slice (some ⟨b, off, none⟩) n cap, .int .i64 i] w fun e w' => RetSp w e w' s i := by
  have hns := hb.1
  obtain ⟨b', off', e0, hbl, hz⟩ := hb.2.2.2 (by omega)
  obtain ⟨rfl, rfl⟩ : b = b' ∧ off = off' := by injection e0 with e0; injection e0 with e1 e2 _; exact ⟨e1, e2⟩
  have c0 := bytes_cell hz (i := i) (by omega)
  rw [h38] at c0
  have hi' : (i : Int) < (n : Int) := by omega
  have hw1 : Below w.heap.size w (w.alloc (.cells tk0 29)) := (Below.refl _ _).alloc (Nat.le_refl _) _
  have hk1 := Blk.new w 29 tk0
  have hrd := entread_any (some ⟨b, off, none⟩) n cap i s _ (hb.below hw1 (Nat.le_refl _)) hm (by omega)
  have hc1 := (hw1.cell (p := ⟨b, off + i, none⟩) hbl).trans c0
  have hsp : specA s i = (entR s i).map fun p => ⟨1, p.2, noB, p.1, false, false⟩ := by unfold specA; rw [if_neg (by rw [h38]; decide), if_pos h38]
  obtain ⟨r, k, hv, hsp2, hk⟩ : ∃ (r : Int) (k : Nat), pairV (entR s i) = .tuple #[.int .i32 r, .int .i64 k] ∧ (specA s i = if 0 < k then some ⟨1, k, noB, r, false, false⟩ else none) ∧ i + k ≤ 2000000 := by
    rw [hsp]
    cases he : entR s i with
    | none => exact ⟨0, 0, rfl, rfl, by omega⟩
    | some p =>
      obtain ⟨h1, h2⟩ := entR_bd he
      exact ⟨p.1, p.2, rfl, by rw [if_pos (by omega)]; rfl, by omega⟩
  rw [hv] at hrd
  have HRD := hid hrd
  have HSP := hid hsp2
  have e2 : IntKind.i64.wrap ((i : Int) + (k : Int)) = (i : Int) + (k : Int) := IntWalk.i64_in _ (by omega)
  clear hb hz hrd e0 h38 hns hsp hsp2 hv hk
  simp only [tk0] at hw1 hk1 hc1 HRD
  go_enter Tryz.func65, Tryz.ntmps65
  go_upto_region 1 with fail
  generalize w.alloc (.cells #[.int .i64 0, .int .i64 0, .int .i64 0, .string ⟨#[]⟩, .int .i32 0, .bool false] 29) = w1 at *
  have HW1 := hid hw1
  have HK1 := hid hk1
  clear hw1 hk1
  go_wp2_with fail
  refine HRD.out.mono ?_
  rintro e w2 ⟨rfl, hb2⟩
  have hk2 := HK1.out.below hb2 HK1.out.lt
  have hw2 := HW1.out.trans (hb2.mono HW1.out.size)
  have yf := hk2.frozen
  have y0 := hk2.cell 0
  have y1 := hk2.cell 1
  have y2 := hk2.cell 2
  have y3 := hk2.cell 3
  have y4 := hk2.cell 4
  have y5 := hk2.cell 5
  simp only [List.getElem?_toArray, List.getElem?_cons_zero, List.getElem?_cons_succ] at y0 y1 y2 y3 y4 y5
  have HBK := hid (sSet_blk (k := 1) (f := i) (t := (i : Int) + (k : Int)) (nm := ⟨#[]⟩) (z := r) (sg := false) hk2)
  have HBL := hid (sSet_below (k := 1) (f := i) (t := (i : Int) + (k : Int)) (nm := ⟨#[]⟩) (z := r) (sg := false) (Nat.le_refl _) hw2)
  clear hb2 hk2 hw2
  go_wp2_with fail
  change bodyPost _ _ _ _ _ (sSet w2 w.heap.size 1 i ((i : Int) + (k : Int)) ⟨#[]⟩ r false)
  generalize sSet w2 w.heap.size 1 i ((i : Int) + (k : Int)) ⟨#[]⟩ r false = W at *
  exact bodyPost_ret (results_row_tmp2 rfl _ _ w.heap.size _ _ _ _ rfl HBK.out Tryz.underlying29 rfl (by kernel_rfl)) rfl (retSp_of HSP.out rfl HBL.out)
set_option maxHeartbeats 4000000 in
theorem special_ansi (b off n cap i : Nat) (s : ByteArray) (w : World) (hb : BA w (some ⟨b, off, none⟩) n cap s) (hm : n ≤ 1000000) (hi : i < n) (h60 : byt s i ≠ 60) (h38 : byt s i ≠ 38) :
    Calls Tryz.prog 65 #[.slice (some ⟨b, off, none⟩) n cap, .int .i64 i] w fun e w' => RetSp w e w' s i := by
  have hns := hb.1
  obtain ⟨b', off', e0, hbl, hz⟩ := hb.2.2.2 (by omega)
  obtain ⟨rfl, rfl⟩ : b = b' ∧ off = off' := by injection e0 with e0; injection e0 with e1 e2 _; exact ⟨e1, e2⟩
  have c0 := bytes_cell hz (i := i) (by omega)
  have hi' : (i : Int) < (n : Int) := by omega
  have hw1 : Below w.heap.size w (w.alloc (.cells tk0 29)) := (Below.refl _ _).alloc (Nat.le_refl _) _
  have hk1 := Blk.new w 29 tk0
  have hrd := read_any_a (some ⟨b, off, none⟩) n cap i s _ (hb.below hw1 (Nat.le_refl _)) (by omega) (by omega)
  have hc1 := (hw1.cell (p := ⟨b, off + i, none⟩) hbl).trans c0
  have hsp : specA s i = if 0 < (readE s i).size then some ⟨6, (readE s i).size, noB, 0, false, false⟩ else none := by unfold specA; rw [if_neg h60, if_neg h38]
  have hk : i + (readE s i).size ≤ 2000000 := by
    by_cases h : 0 < (readE s i).size
    · have := readE_bd s i h; omega
    · omega
  obtain ⟨E, hE⟩ : ∃ E, E = readE s i := ⟨_, rfl⟩
  rw [← hE] at hrd hsp hk
  obtain ⟨k, wh, op, la⟩ := E
  simp only [Es.val] at hrd hsp hk
  have HRD := hid hrd
  have HSP := hid hsp
  have e2 : IntKind.i64.wrap ((i : Int) + (k : Int)) = (i : Int) + (k : Int) := IntWalk.i64_in _ (by omega)
  have q60 : (byt s i == 60) = false := by simpa using h60
  have q38 : (byt s i == 38) = false := by simpa using h38
  generalize byt s i = c at *
  clear hb hz hrd e0 h38 h60 hns hsp hk hE
  simp only [tk0] at hw1 hk1 hc1 HRD
  go_enter Tryz.func65, Tryz.ntmps65
  go_upto_region 1 with fail
  generalize w.alloc (.cells #[.int .i64 0, .int .i64 0, .int .i64 0, .string ⟨#[]⟩, .int .i32 0, .bool false] 29) = w1 at *
  have HW1 := hid hw1
  have HK1 := hid hk1
  clear hw1 hk1
  go_wp2_with fail
  refine HRD.out.mono ?_
  rintro e w2 ⟨rfl, hb2⟩
  have hk2 := HK1.out.below hb2 HK1.out.lt
  have hw2 := HW1.out.trans (hb2.mono HW1.out.size)
  have hs2 := hw2.size
  have hk3 := hk2.alloc (.cells #[.int .i64 k, .bool wh, .bool op, .int .u8 la] 106)
  have hw3 := hw2.alloc hs2 (.cells #[.int .i64 k, .bool wh, .bool op, .int .u8 la] 106)
  have hx := Blk.new w2 106 #[.int .i64 k, .bool wh, .bool op, .int .u8 la]
  have hne : w.heap.size ≠ w2.heap.size := by
    have := hk2.lt
    omega
  have x0 := hx.cell 0
  simp only [List.getElem?_toArray, List.getElem?_cons_zero] at x0
  have HK3 := hid hk3
  have HW3 := hid hw3
  have HNE := hid hne
  clear hb2 hk2 hw2 hk3 hw3 hx hne hs2
  go_upto_region 9 with fail
  generalize w2.alloc (.cells #[.int .i64 k, .bool wh, .bool op, .int .u8 la] 106) = w3 at *
  have y0 := HK3.out.cell 0
  have y1 := HK3.out.cell 1
  have y2 := HK3.out.cell 2
  have y3 := HK3.out.cell 3
  have y4 := HK3.out.cell 4
  have y5 := HK3.out.cell 5
  have yf := HK3.out.frozen
  simp only [List.getElem?_toArray, List.getElem?_cons_zero, List.getElem?_cons_succ] at y0 y1 y2 y3 y4 y5
  refine wp_region_held_drew (S := fun w' : World => w'.cell? ⟨w2.heap.size, 0, none⟩ = some (.int .i64 k)) (by kernel_rfl) x0 (fun hHeld => ?_)
  refine wpAnyH_take (i := 0) (v := ?hv1) rfl (by kernel_rfl) (by kernel_rfl) (by kernel_rfl) (fun _ _ _ h => h) (Or.inl ⟨by rfl, ?hy1⟩) (by assumption) ?hr1
  case hy1 => (intro w hSw; (try dsimp only at hSw); go_simp; try with_reducible rfl)
  (try simp only [Act.put, List.getElem_toArray, List.getElem_cons_zero, List.setIfInBounds_toArray, List.set_cons_zero, List.set_cons_succ])
  refine wpAnyH_take (i := 1) (v := ?hv2) rfl (by kernel_rfl) (by kernel_rfl) (by kernel_rfl) (fun _ _ _ h => h) (Or.inl ⟨by rfl, ?hy2⟩) (by assumption) ?hr2
  case hy2 => (intro w hSw; (try dsimp only at hSw); go_simp; try with_reducible rfl)
  (try simp only [Act.put, List.getElem_toArray, List.getElem_cons_zero, List.getElem_cons_succ, List.setIfInBounds_toArray, List.set_cons_zero, List.set_cons_succ])
  refine wpAnyH_take (i := 2) (v := ?hv3) rfl (by kernel_rfl) (by kernel_rfl) (by kernel_rfl) (fun _ _ _ h => h) (Or.inl ⟨by rfl, ?hy3⟩) (by assumption) ?hr3
  case hy3 => (intro w hSw; (try dsimp only at hSw); go_simp; try with_reducible rfl)
  (try simp only [Act.put, List.getElem_toArray, List.getElem_cons_zero, List.getElem_cons_succ, List.setIfInBounds_toArray, List.set_cons_zero, List.set_cons_succ])
  refine wpAnyH_take (i := 3) (v := ?hv4) rfl (by kernel_rfl) (by kernel_rfl) (by kernel_rfl) (fun _ _ _ h => h) (Or.inl ⟨by rfl, ?hy4⟩) (by assumption) ?hr4
  case hy4 => (intro w hSw; (try dsimp only at hSw); go_simp; try with_reducible rfl)
  (try simp only [Act.put, List.getElem_toArray, List.getElem_cons_zero, List.getElem_cons_succ, List.setIfInBounds_toArray, List.set_cons_zero, List.set_cons_succ])
  try simp only [e2]
  refine wpAnyH_take (i := 4) (v := ?hv5) rfl (by kernel_rfl) (by kernel_rfl) (by kernel_rfl) (fun _ _ _ h => h) (Or.inl ⟨by rfl, ?hy5⟩) (by assumption) ?hr5
  case hy5 => (intro w hSw; (try dsimp only at hSw); go_simp; try with_reducible rfl)
  (try simp only [Act.put, List.getElem_toArray, List.getElem_cons_zero, List.getElem_cons_succ, List.setIfInBounds_toArray, List.set_cons_zero, List.set_cons_succ])
  refine wpAnyH_take (i := 5) (v := ?hv6) rfl (by kernel_rfl) (by kernel_rfl) (by kernel_rfl) (fun _ _ _ h => h) (Or.inl ⟨by rfl, ?hy6⟩) (by assumption) ?hr6
  case hy6 => (intro w hSw; (try dsimp only at hSw); go_simp; try with_reducible rfl)
  (try simp only [Act.put, List.getElem_toArray, List.getElem_cons_zero, List.getElem_cons_succ, List.setIfInBounds_toArray, List.set_cons_zero, List.set_cons_succ])
  refine wpAnyH_take (i := 6) (v := ?hv7) rfl (by kernel_rfl) (by kernel_rfl) (by kernel_rfl) (fun _ _ _ h => h) (Or.inl ⟨by rfl, ?hy7⟩) (by assumption) ?hr7
  case hy7 => (intro w hSw; (try dsimp only at hSw); go_simp; try with_reducible rfl)
  (try simp only [Act.put, List.getElem_toArray, List.getElem_cons_zero, List.getElem_cons_succ, List.setIfInBounds_toArray, List.set_cons_zero, List.set_cons_succ])
  refine wpAnyH_take (i := 7) (v := ?hv8) rfl (by kernel_rfl) (by kernel_rfl) (by kernel_rfl) (fun _ _ _ h => h) (Or.inl ⟨by rfl, ?hy8⟩) (by assumption) ?hr8
  case hy8 => (intro w hSw; (try dsimp only at hSw); go_simp; try with_reducible rfl)
  (try simp only [Act.put, List.getElem_toArray, List.getElem_cons_zero, List.getElem_cons_succ, List.setIfInBounds_toArray, List.set_cons_zero, List.set_cons_succ])
  refine wpAnyH_take (i := 8) (v := ?hv9) rfl (by kernel_rfl) (by kernel_rfl) (by kernel_rfl) (fun _ _ _ h => h) (Or.inl ⟨by rfl, ?hy9⟩) (by assumption) ?hr9
  case hy9 => (intro w hSw; (try dsimp only at hSw); go_simp; try with_reducible rfl)
  (try simp only [Act.put, List.getElem_toArray, List.getElem_cons_zero, List.getElem_cons_succ, List.setIfInBounds_toArray, List.set_cons_zero, List.set_cons_succ])
  refine wpAnyH_ready (rs := [9]) (by kernel_rfl) (by decide) (AllReadyH.cons rfl (fun K hK => ?_) AllReadyH.nil)
  go_simp
  refine hK.out _ (sSet w3 w.heap.size 6 i ((i : Int) + (k : Int)) ⟨#[]⟩ 0 false).drew (sSet_farD HNE.out x0) (fun hHeld2 => ?_)
  clear hK K
  try simp only [List.setIfInBounds_toArray, List.set_cons_zero, List.set_cons_succ, Act.put]
  refine wpAnyH_take (i := 10) (v := ?hv10) rfl (by kernel_rfl) (by kernel_rfl) (by kernel_rfl) (fun _ _ _ h => h) (Or.inl ⟨by rfl, ?hy10⟩) (by assumption) ?hr10
  case hy10 => (intro w hSw; (try dsimp only at hSw); go_simp; try with_reducible rfl)
  (try simp only [Act.put, List.getElem_toArray, List.getElem_cons_zero, List.getElem_cons_succ, List.setIfInBounds_toArray, List.set_cons_zero, List.set_cons_succ])
  refine wpAnyH_take (i := 11) (v := ?hv11) rfl (by kernel_rfl) (by kernel_rfl) (by kernel_rfl) (fun _ _ _ h => h) (Or.inl ⟨by rfl, ?hy11⟩) (by assumption) ?hr11
  case hy11 => (intro w hSw; (try dsimp only at hSw); go_simp; try with_reducible rfl)
  (try simp only [Act.put, List.getElem_toArray, List.getElem_cons_zero, List.getElem_cons_succ, List.setIfInBounds_toArray, List.set_cons_zero, List.set_cons_succ])
  refine wpAnyH_done (by kernel_rfl) ?_ _
  have hbk := Blk.drew (sSet_blk (k := 6) (f := i) (t := (i : Int) + (k : Int)) (nm := ⟨#[]⟩) (z := 0) (sg := false) HK3.out)
  have hbl2 := Below.drew (sSet_below (k := 6) (f := i) (t := (i : Int) + (k : Int)) (nm := ⟨#[]⟩) (z := 0) (sg := false) (Nat.le_refl _) HW3.out)
  generalize (sSet w3 w.heap.size 6 i ((i : Int) + (k : Int)) ⟨#[]⟩ 0 false).drew = W at *
  have HBK := hid hbk
  have HBL := hid hbl2
  clear hHeld hHeld2 hbk hbl2 x0 y0 y1 y2 y3 y4 y5 yf
  go_wp2_with fail
  exact bodyPost_ret (results_row_tmp2 rfl _ _ w.heap.size _ _ _ _ rfl HBK.out Tryz.underlying29 rfl (by kernel_rfl)) rfl (retSp_of HSP.out rfl HBL.out)
theorem special_any (a : Option Addr) (n cap i : Nat) (s : ByteArray) (w : World) (hb : BA w a n cap s) (hm : n ≤ 1000000) (hi : i < n) (hmx : Mx w) :
    Calls Tryz.prog 65 #[.slice a n cap, .int .i64 i] w fun e w' => RetSp w e w' s i := by
  obtain ⟨b, off, rfl, _⟩ := hb.2.2.2 (by omega)
  by_cases h60 : byt s i = 60
  · exact special_tag b off n cap i s w hb hm hi hmx h60
  by_cases h38 : byt s i = 38
  · exact special_ent b off n cap i s w hb hm hi h38
  exact special_ansi b off n cap i s w hb hm hi h60 h38
set_option maxHeartbeats 1000000 in
theorem text_any (a : Option Addr) (n cap i : Nat) (s : ByteArray) (w : World) (hb : BA w a n cap s) (hm : n ≤ 1000000) (hi : i < n) (hmx : Mx w) :
    Calls Tryz.prog 66 #[.slice a n cap, .int .i64 i] w fun e w' => e = .returned (.int .i64 (textE s i)) ∧ Below w.heap.size w w' := by
  have HCL := hid (fun (W : World) (h : Below w.heap.size w W) (j : Nat) (hj : j < n) => special_any a n cap j s W (hb.below h (Nat.le_refl _)) hm hj (hmx.below h (Nat.le_refl _)))
  have HN := hid hb.1
  clear hb hmx
  go_enter Tryz.func66, Tryz.ntmps66
  go_wp2_with fail
  go_loopg [1] (n - i) (fun kx s1 wr => ∃ j : Nat, s1 = .int .i64 j ∧ j ≤ n ∧ n - j ≤ kx ∧ Hid (Below w.heap.size w wr) ∧ Hid (textE s i = scanTo (specB s) s.size j))
  case atStart => exact ⟨i + 1, by go_num, by omega, by omega, Below.refl _ _, rfl⟩
  case round =>
    obtain ⟨j, rfl, hj, hg, HB, HE⟩ := hrel
    by_cases hlt : j < n
    · have hlt' : (j : Int) < (n : Int) := by omega
      have HC := hid (HCL.out wr HB.out j hlt)
      cases hc : specB s j
      · have HE2 := hid (HE.out.trans (scanTo_step (by have := HN.out; omega) hc))
        have HCC := hid hc
        clear hc
        go_wp2_with fail
        refine HC.out.mono ?_
        rintro e2 w2 ⟨t, fo, rfl, _, hb2⟩
        have HB2 := hid (HB.out.trans (hb2.mono HB.out.size))
        rw [HCC.out]
        have HB3 := hid (HB2.out.alloc HB2.out.size (.cells (tkC t) 29))
        clear hb2
        unfold tkC at *
        go_wp2_with fail
        go_roundg (n - (j + 1))
        case measure => omega
        case rel => exact ⟨j + 1, by go_num, by omega, Nat.le_refl _, HB3, HE2⟩
      · have HE2 := hid (HE.out.trans (scanTo_stop (by have := HN.out; omega) hc))
        have HCC := hid hc
        clear hc
        go_wp2_with fail
        refine HC.out.mono ?_
        rintro e2 w2 ⟨t, fo, rfl, _, hb2⟩
        have HB2 := hid (HB.out.trans (hb2.mono HB.out.size))
        rw [HCC.out]
        have HB3 := hid (HB2.out.alloc HB2.out.size (.cells (tkC t) 29))
        clear hb2
        unfold tkC at *
        go_wp2_with fail
        go_ret
        exact ⟨ret_int (by rw [HE2.out]), HB3.out⟩
    · have hlt' : ¬ (j : Int) < (n : Int) := by omega
      obtain rfl : j = n := by omega
      have HE2 := hid (HE.out.trans (scanTo_end (by have := HN.out; omega)))
      clear hlt hg
      go_wp2_with fail
      go_ret
      exact ⟨ret_int (by rw [HE2.out]), HB.out⟩
end Go.Proofs.YtpnbkecchfhimaaGreatDoor
