/- Chapter 30: Find: the walk. -/
import Derived.Test.YtpnbkecchfhimaaGreatDoorLiM3
import Derived.Sort.MapsRangeIn
import Derived.BigRegion
namespace Go.Proofs.YtpnbkecchfhimaaGreatDoor
open Go.RowKit Go.Shelf Go.Maps
open Go.Lib (hid)
set_option linter.unusedVariables false
set_option linter.unusedSimpArgs false
set_option maxRecDepth 100000

set_option maxHeartbeats 16000000 in
theorem lintFind_any (b : Option Addr) (bl bc : Nat) (s : ByteArray) (w : World) (hba : BA w b bl bc s) (hmx : Mx w) (hts : TabSp w) (hbl : bl ≤ 90000) :
    Calls Tryz.prog 23 #[.slice b bl bc] w fun e w' => ∃ A c l, e = .returned (.slice A l.length c) ∧ FoundL s l ∧ FR w' A l.length l ∧ Below w.heap.size w w' := by
  have hmm := @run_makeMap Tryz.prog
  have HB0 := hid (((Below.refl w.heap.size w).alloc (Nat.le_refl _) (.map #[] 0)).alloc (by simp) (.cells #[.slice b bl bc, .map (some w.heap.size), .slice none 0 0] 87))
  have HF0 := hid (FnW.start w (.slice b bl bc))
  have HSH := hid (fun No => start_shuns w (.slice b bl bc) No)
  have HOW := hid (fun W : World => World.ownsMap_made (H := Unit) W Tryz.prog 3 (lkR (w.heap.size + 1)))
  have HBA := hid (fun W (h : Below w.heap.size w W) => hba.below h (Nat.le_refl _))
  have HMX := hid (fun W (h : Below w.heap.size w W) => hmx.below h (Nat.le_refl _))
  have HTS := hid (fun W (h : Below w.heap.size w W) => hts.below h (Nat.le_refl _))
  have HALL := hid (fun W (h : Below w.heap.size w W) => tokAll_any b bl bc s W (hba.below h (Nat.le_refl _)) (hmx.below h (Nat.le_refl _)) (by omega))
  clear hba hmx hts
  go_enter Tryz.func23, Tryz.ntmps23
  go_upto_region 2 with fail
  have hsz1 : ((w.alloc (.map #[] 0)).alloc (.cells #[.slice b bl bc, .map (some w.heap.size), .slice none 0 0] 87)).heap.size = w.heap.size + 2 := by simp
  generalize (w.alloc (.map #[] 0)).alloc (.cells #[.slice b bl bc, .map (some w.heap.size), .slice none 0 0] 87) = w1 at *
  have HOWN := hid (HOW.out w1)
  have HB := hid ((Below.refl w1.heap.size w1).alloc (Nat.le_refl _) (.map #[] 0))
  have HSZ := hid hsz1
  generalize hgg : w.heap.size + 1 = g at *
  clear HOW hsz1
  go_wp2_with ((refine wpList_insert_own _ rfl _ _ _ 89 rfl 3 88 (int_keyed Tryz.underlying3) Tryz.underlying89 (lkR g) w1.heap.size _ _ rfl HOWN.out (by unfold maxLen; omega) _ _ _ rfl rfl (keyOf_int_mk Tryz.underlying3 (by decide)) _ [] (by first | exact lkR_text g | exact lkR_tag g | exact lkR_other g) ?_); intro w2 hown2 hgrow2; have HOWN := hid hown2; have HB := hid (HB.out.grown hgrow2 HB.out.size (fun k e => by cases e; exact Nat.le_refl _)); clear hown2 hgrow2)
  have HLK := hid (show w2.ownsMap Tryz.prog 3 (lkR g) w1.heap.size 6 lkD from HOWN.out)
  have HB2 := hid HB.out
  refine (HALL.out w2 (HB0.out.trans (HB.out.mono HB0.out.size))).mono ?_
  rintro e w3 ⟨v, rfl, hmd, hb3⟩
  have hne := fun b (e : v.ownBlock = some b) => (hmd.1.lt b e).1
  obtain ⟨A, tcap, rfl, htr⟩ := TR.of_made hmd
  have hb13 := HB2.out.trans (hb3.mono HB2.out.size)
  obtain ⟨hf3, hs3⟩ := HF0.out.below hb13
  have hlk3 : w3.ownsMap Tryz.prog 3 (lkR g) w1.heap.size 6 lkD := ownsMap_block HLK.out (hb3.block _ (ownsMap_lt HLK.out))
  have HF3 := hid hf3
  have HTR := hid htr
  have HLK3 := hid hlk3
  have HB3 := hid (HB0.out.trans (hb13.mono HB0.out.size))
  have hsz3 : w1.heap.size ≤ w3.heap.size := hb13.size
  have hmbl : w.heap.size < w1.heap.size := by have := HSZ.out; omega
  have HLOW := hid (hf3.low (B0 := w.heap.size) (by omega) (Nat.le_refl _) (by omega))
  have HNEW := hid (fun k (h1 : w.heap.size + 2 ≤ k) (h2 : k < w3.heap.size) => (show Prot w3 g w.heap.size (.slice none 0 0) k from ⟨h2, by omega, by omega, (fun e => by cases e), (HSH.out (· = k)).kept (grown_of_below hb13 none) hmbl (by simp)⟩))
  have HTP := hid (show ∀ bt, A = some ⟨bt, 0, none⟩ → 0 < (toks s).length → Prot w3 g w.heap.size (.slice none 0 0) bt from fun bt e hn => by
    obtain ⟨bt', e', hl', _⟩ := htr.2 hn
    rw [e] at e'
    injection e' with e'
    injection e' with e'
    subst e'
    refine HNEW.out bt ?_ hl'
    have h1 := hne bt (by rw [e]; rfl)
    have h2 := HB2.out.size
    have h3 := HSZ.out
    omega)
  have HKP := hid (show Prot w3 g w.heap.size (.slice none 0 0) w1.heap.size from HNEW.out _ (by have := HSZ.out; omega) (ownsMap_lt hlk3))
  have hn9 : (toks s).length ≤ 90000 := by have h1 := toks_len s; have h2 := (HBA.out w (Below.refl _ _)).1; omega
  have HMEM := hid (fun j (h : j < (toks s).length) => toks_mem (List.getElem_mem h))
  have HNM := hid (fun j (h : j < (toks s).length) => name_size (List.getElem_mem h))
  have HOUT := hid (fun j (h : j < (toks s).length) => finG_out s h)
  have HSTEP := hid (fun j (h : j < (toks s).length) => finG_step s h)
  have HFIN := hid (finG_all s)
  have HGG := hid hgg
  have HZ3 := hid (show w.heap.size + 2 ≤ w3.heap.size by have := HSZ.out; omega)
  clear hf3 hs3 hlk3 htr hne hmd hb13 hb3 HSH HALL hgg hmbl hsz3
  obtain ⟨n, hn⟩ : ∃ n, n = (toks s).length := ⟨_, rfl⟩
  have HN := hid hn
  rw [← hn] at HTR hn9 ⊢
  clear hn
  generalize w1.heap.size = bm at *
  go_wp2_with fail
  go_loopg [34] n (fun kx s34 wr => ∃ (i nn : Nat) (ov : Value), s34 = .int .i64 i ∧ i ≤ n ∧ n - i ≤ kx ∧ nn ≤ i ∧ Hid (FnW wr g (w.heap.size + 2) w.heap.size nn (.slice b bl bc) ov (finG s i)) ∧ Hid (FnStep w3 wr g w.heap.size (.slice none 0 0) ov))
  case atStart => exact ⟨0, 0, _, rfl, Nat.zero_le _, Nat.le_refl _, Nat.le_refl _, HF3.out, FnStep.refl _ _ _ _⟩
  case round =>
    obtain ⟨i, nn, ov, rfl, hi1, hg1, hnn, HF, HS⟩ := hrel
    by_cases hlt : i < n
    · have hlt' : (i : Int) < (n : Int) := by omega
      have hil : i < (toks s).length := by rw [← HN.out]; exact hlt
      obtain ⟨gt, rfl, hgl, x0, x1, x2, x3, x4, x5⟩ := (HTR.out.stay (fun bt e h => (HS.out.block bt (HTP.out bt e h)).1) HS.out.size).at_ hil
      have HM := hid (HMEM.out i hil)
      have HNMI := hid (HNM.out i hil)
      have HOUTI := hid (HOUT.out i hil)
      have HSTI := hid (HSTEP.out i hil)
      generalize (toks s)[i] = t at *
      go_upto_region 6 with fail
      clear x0 x1 x2 x3 x4 x5
      have hbk := Blk.new wr 29 #[.int .i64 t.kind, .int .i64 t.fr, .int .i64 t.til, .string t.name, .int .i32 t.r, .bool t.single]
      have x0 := hbk.cell 0
      have x1 := hbk.cell 1
      have x2 := hbk.cell 2
      have x3 := hbk.cell 3
      have x4 := hbk.cell 4
      have x5 := hbk.cell 5
      simp only [List.getElem?_toArray, List.getElem?_cons_zero, List.getElem?_cons_succ] at x0 x1 x2 x3 x4 x5
      obtain ⟨hf4, hs4⟩ := HF.out.below ((Below.refl wr.heap.size wr).alloc (Nat.le_refl _) (.cells #[.int .i64 t.kind, .int .i64 t.fr, .int .i64 t.til, .string t.name, .int .i32 t.r, .bool t.single] 29))
      have HF4 := hid hf4
      have HS4 := hid (HS.out.trans hs4)
      clear hf4 hs4 hbk
      generalize wr.alloc (.cells #[.int .i64 t.kind, .int .i64 t.fr, .int .i64 t.til, .string t.name, .int .i32 t.r, .bool t.single] 29) = w4 at *
      generalize wr.heap.size = q4 at *
      have HB4 := hid (HS4.out.low HB3.out HLOW.out)
      obtain ⟨v4, hl4, hlv⟩ := looks_at (ownsMap_block HLK3.out (HS4.out.block bm HKP.out).1) t.kind.toNat (by have := HM.out; omega)
      rw [Int.toNat_of_nonneg HM.out.2.2.1] at hl4
      obtain ⟨bb, off, rfl, hbb, _⟩ := (HBA.out w (Below.refl _ _)).2.2.2 (by have h1 := (HBA.out w (Below.refl _ _)).1; have h2 := HM.out; omega)
      have HCALL := hid (fun f he => look_any g (w.heap.size + 2) w.heap.size nn ov (finG s i) t s bb off bl bc w4 HF4.out (HBA.out w4 HB4.out) (Nat.le_trans HZ3.out HS4.out.size) hbl HOUTI.out (by omega) HM.out.2.2.1 HM.out.1 HM.out.2.1 (by have h1 := HNMI.out; have h2 := (HBA.out w (Below.refl _ _)).1; unfold maxLen; omega) (HMX.out w4 HB4.out) (HTS.out w4 HB4.out) (HS4.out.block bb (HLOW.out bb hbb)).2 f he)
      cases hk : lkOf t.kind.toNat with
      | none =>
        rw [hk] at hl4
        simp only [Option.isSome_none] at hl4
        have HST := hid (HSTI.out.trans (look_none HM.out.2.2.1 HM.out.2.2.2 hk))
        clear hk hlv
        go_wp2_with fail
        go_roundg (n - (i + 1))
        case measure => omega
        case rel => exact ⟨i + 1, nn, ov, by go_num, by omega, Nat.le_refl _, by omega, HST.out ▸ HF4.out, HS4.out⟩
      | some f =>
        rw [hk] at hl4
        have hv := hlv f hk
        subst hv
        simp only [Option.isSome_some, lkV] at hl4
        have HC := hid (HCALL.out f hk)
        simp only [tkC] at HC
        have hc3 := lkOf_cases hk
        have hl4x : True := trivial
        clear hk hlv
        rcases hc3 with rfl | rfl | rfl
        · clear hl4x HCALL
          go_wp2_with fail
          go_at_call 44
          refine HC.out.mono ?_
          rintro e w5 ⟨rfl, ov5, n5, hf5, hn5, hs5⟩
          have HF5 := hid (HSTI.out ▸ hf5)
          have HS5 := hid (HS4.out.trans hs5)
          clear hf5 hs5 HC
          go_wp2_with fail
          go_roundg (n - (i + 1))
          case measure => omega
          case rel => exact ⟨i + 1, n5, ov5, by go_num, by omega, Nat.le_refl _, by omega, HF5.out, HS5.out⟩
        · clear hl4x HCALL
          go_wp2_with fail
          go_at_call 45
          refine HC.out.mono ?_
          rintro e w5 ⟨rfl, ov5, n5, hf5, hn5, hs5⟩
          have HF5 := hid (HSTI.out ▸ hf5)
          have HS5 := hid (HS4.out.trans hs5)
          clear hf5 hs5 HC
          go_wp2_with fail
          go_roundg (n - (i + 1))
          case measure => omega
          case rel => exact ⟨i + 1, n5, ov5, by go_num, by omega, Nat.le_refl _, by omega, HF5.out, HS5.out⟩
        · clear hl4x HCALL
          go_wp2_with fail
          go_at_call 46
          refine HC.out.mono ?_
          rintro e w5 ⟨rfl, ov5, n5, hf5, hn5, hs5⟩
          have HF5 := hid (HSTI.out ▸ hf5)
          have HS5 := hid (HS4.out.trans hs5)
          clear hf5 hs5 HC
          go_wp2_with fail
          go_roundg (n - (i + 1))
          case measure => omega
          case rel => exact ⟨i + 1, n5, ov5, by go_num, by omega, Nat.le_refl _, by omega, HF5.out, HS5.out⟩
    · have hin : i = n := by omega
      subst hin
      obtain ⟨wR, rfl⟩ : ∃ wR, wR = wr := ⟨_, rfl⟩
      have HF6 := hid (show FnW wR g (w.heap.size + 2) w.heap.size nn (.slice b bl bc) ov (finL s) by have h := HF.out; rw [HN.out, HFIN.out] at h; exact h)
      have hlt' : ¬ ((i : Int) < (i : Int)) := by omega
      obtain ⟨D, hD, hop⟩ := HF6.out.grp
      have hown := grp_ownsMap hD HF6.out.shun
      have y1 := HF6.out.at_.1.cell 1
      simp only [List.getElem?_toArray, List.getElem?_cons_zero, List.getElem?_cons_succ] at y1
      have HOP := hid hop
      have HOWN2 := hid hown
      clear hD hop hown
      go_wp2_with (first | (at_range; (refine wpList_range_own _ rfl _ 85 rfl 9 52 opens_law Tryz.underlying85 (grR wR w.heap.size ov) w.heap.size nn D rfl HOWN2.out ?_); intro w7 hrg7 hg7 hs7) | go_in)
      have hgl := HF6.out.at_.1.lt
      have hovl : ∀ j, ov.ownBlock = some j → j < wR.heap.size := fun j hj => (HF6.out.at_.2.lt j hj).2
      have HOVR := hid (show ov.ownBlock ≠ some wR.heap.size from fun e => absurd (hovl _ e) (by omega))
      have HF7 := hid (HF6.out.at_.next (hg7.but (some wR.heap.size)) (by omega) HOVR.out)
      have HR7 := hid hrg7
      have HG7 := hid hg7
      have HS7 := hid hs7
      have HOVL := hid hovl
      have HMBL := hid HOWN2.out.lt
      have hgl1 : w.heap.size < g := by have := HGG.out; omega
      have hgl2 : g < w.heap.size + 2 := by have := HGG.out; omega
      have hss : s.size ≤ 90000 := by have h1 := (HBA.out w (Below.refl _ _)).1; omega
      have HFQ := hid HF6.out.at_.1
      have HSR := hid (show w.heap.size + 2 ≤ wR.heap.size from Nat.le_trans HZ3.out HS.out.size)
      have HBR := hid (HS.out.low HB3.out HLOW.out)
      have HOVB := hid (fun j (hj : ov.ownBlock = some j) => by have := (HF6.out.at_.2.lt j hj).1; omega : ∀ j, ov.ownBlock = some j → w.heap.size ≤ j)
      clear hrg7 hg7 hs7 hovl y1
      obtain ⟨r, hr⟩ : ∃ r, r = wR.heap.size := ⟨_, rfl⟩
      have HRR := hid hr
      rw [← hr] at HR7 HOVR ⊢
      clear hr
      go_loopw [10] (fun _ w8 => ∃ (left : Lit → Bool) (cnt : Nat) (ks : List ByteArray) (ov2 : Value), Hid (w8.ranges Tryz.prog 9 (grR wR w.heap.size ov) w.heap.size r nn D left cnt) ∧ Hid (∀ x : ByteArray, left (strL x) = true ↔ Maps.has D (strL x) = true ∧ x ∉ ks) ∧ Hid ks.Nodup ∧ Hid (FnAt w8 g (w.heap.size + 2) (.slice b bl bc) (.map (some w.heap.size)) ov2 (endFg (finL s) ks)) ∧ Hid (Fnd w7 w8 g r ov ov2))
        (fun _ w8 => w8.rangeLeft w.heap.size r)
      case atStart => exact ⟨Maps.has D, Maps.size D, [], ov, HR7.out, (fun x => by simp), List.nodup_nil, (by show FnAt _ _ _ _ _ _ ((finL s).out ++ []); rw [List.append_nil]; exact HF7.out), Fnd.refl _ _ _ _⟩
      case round =>
        obtain ⟨left, cnt, ks, ov2, HR, HL, HND, HFA, HFD⟩ := hrel
        obtain ⟨w8, rfl⟩ : ∃ w8, w8 = wr := ⟨_, rfl⟩
        go_wp2_with (first | (at_next; (refine wpList_next_ranges _ rfl _ rfl 9 opens_law (grR wR w.heap.size ov) Value.string (fun v : Value => v) (fun key kl h => Maps.keyOf_string_inv Tryz.underlying9 h) (fun v y h => ⟨v, rfl⟩) w.heap.size r nn D left cnt rfl HR.out ?_ ?_)) | go_in)
        · intro hc0 hl0
          have HK := hid (ks_all HOP.out HL.out hl0)
          obtain ⟨A2, c2, rfl⟩ := owns_slice HFA.out.2
          have z2 := HFA.out.1.cell 2
          simp only [List.getElem?_toArray, List.getElem?_cons_zero, List.getElem?_cons_succ] at z2
          have hs8 : w.heap.size + 2 ≤ w8.heap.size := by have h1 := HFD.out.size; have h2 := HG7.out.size; have h3 := HSR.out; omega
          have hel := end_len s ks HND.out
          have HB8 := hid (HFD.out.low (HBR.out.trans (below_grown0 HG7.out HBR.out.size)) (by omega) (by have := HRR.out; have := HSR.out; omega) HOVB.out (by have := HG7.out.size; have := HSR.out; omega))
          have HSRT := hid (sortF_any A2 (w.heap.size + 2) _ c2 48 _ w8 HFA.out.2 hs8 (end_ok s ks (by omega)) (by omega))
          have HQ8 := hid HFA.out.1
          have HA2 := hid (show A2 ≠ some ⟨g, 0, none⟩ from fun e => by have h1 := (HFA.out.2.lt g (by rw [e]; rfl)).1; omega)
          have hg8 := HFA.out.1.lt
          obtain ⟨m8, hm8⟩ : ∃ m8, m8 = (endFg (finL s) ks).length := ⟨_, rfl⟩
          have HM8 := hid hm8
          rw [← hm8] at z2 HSRT HQ8
          clear hl0 hc0 hm8 hel
          go_wp2_with fail
          refine HSRT.out.mono ?_
          rintro e wS ⟨rfl, kk, hperm, hpw, hfr, hbS, hstS⟩
          have z3 := (HQ8.out.block (hstS g hg8 HA2.out)).cell 2
          simp only [List.getElem?_toArray, List.getElem?_cons_zero, List.getElem?_cons_succ] at z3
          have HFR := hid hfr
          have HPM := hid hperm
          have HPW := hid hpw
          have HBS := hid (HB8.out.trans (hbS.mono (by omega)))
          clear hfr hperm hpw hbS hstS z2
          go_wp2_with fail
          go_ret
          have hkl : m8 = kk.length := HFR.out.1
          subst hkl
          exact ⟨A2, c2, kk, rfl, foundL_of HK.out HND.out HPM.out HPW.out, HFR.out, HBS.out⟩
        · intro x c kl y1 y2 w9 cnt9 hkx hlx hcy hat hrg9 hlt9 hg9 hs9 hen9
          obtain rfl := key_strL hkx
          have hxk := ((HL.out x).1 hlx).2
          have HNK := hid (ks_nodup HND.out hxk)
          obtain ⟨hnc, hgi⟩ := group_of (y := (y1, y2)) HOP.out hcy hat
          obtain ⟨Ac, cc, rfl, hki, hkb⟩ := ints_ki hgi
          have hov2r : ov2.ownBlock ≠ some r := fun e => by
            rcases HFD.out.own r e with h1 | h1
            · exact HOVR.out h1
            · have := HRR.out; have := HS7.out; omega
          have hgr : g ≠ r := by have := HRR.out; omega
          have HFA9 := hid (HFA.out.next hg9 hgr hov2r)
          have HFD9 := hid (HFD.out.next hg9)
          have HKI := hid (fun (W : World) (ov3 : Value) (h : Fnd w9 W g g ov2 ov3) => hki.found hkb HG7.out (HFD9.out.trans h) HRR.out hnc hgi HFQ.out)
          have hs9 : w.heap.size + 2 ≤ w9.heap.size := by have h1 := HFD9.out.size; have h2 := HG7.out.size; have h3 := HSR.out; omega
          have HLE := hid HR.out.left_eq
          have HR9 := hid hrg9
          have HRN := hid (fun (W : World) (ov3 : Value) (h : Fnd w9 W g g ov2 ov3) => ranges_block hrg9 (h.block w.heap.size (by omega) (by omega) (by omega) (fun e => by have := (HFA9.out.2.lt _ e).1; omega)) (h.block r (by have h1 := HFD9.out.size; have := HRR.out; have := HS7.out; omega) hgr.symm hgr.symm hov2r))
          have HL9 := hid (left_step (x := x) HL.out)
          have HLEN := hid (fun j (h : j ≤ ((finL s).op x).length) => grpFg_len HNK.out h)
          have HGS := hid (fun j (h : j < ((finL s).op x).length) => grpFg_step (endFg (finL s) ks) ((finL s).op x) h)
          have HGA := hid (grpFg_all (finL s) ks x)
          have HFA0 := hid (show FnAt w9 g (w.heap.size + 2) (.slice b bl bc) (.map (some w.heap.size)) ov2 (grpFg (endFg (finL s) ks) ((finL s).op x) 0) by rw [grpFg_zero]; exact HFA9.out)
          generalize (finL s).op x = zs at *
          obtain ⟨m, hm⟩ : ∃ m, m = zs.length := ⟨_, rfl⟩
          have HM := hid hm
          rw [← hm] at hen9 ⊢
          have hml : m ≤ 90000 := by
            have h1 := HLEN.out zs.length (Nat.le_refl _)
            unfold grpFg at h1
            rw [List.length_append, List.length_map, List.take_length] at h1
            omega
          clear hm hkx hlx hcy hat hrg9 hg9 hgi hki hkb hnc hxk
          go_wp2_with fail
          go_loopg [61] m (fun kx s61 wr => ∃ (j : Nat) (ov3 : Value), s61 = .int .i64 j ∧ j ≤ m ∧ m - j ≤ kx ∧ Hid (FnAt wr g (w.heap.size + 2) (.slice b bl bc) (.map (some w.heap.size)) ov3 (grpFg (endFg (finL s) ks) zs j)) ∧ Hid (Fnd w9 wr g g ov2 ov3))
          case atStart => exact ⟨0, ov2, rfl, Nat.zero_le _, Nat.le_refl _, HFA0.out, Fnd.refl _ _ _ _⟩
          case round =>
            obtain ⟨j, ov3, rfl, hj1, hgm, HFJ, HFI⟩ := hrel
            by_cases hlt : j < m
            · have hlt' : (j : Int) < (m : Int) := by omega
              have hjl : j < zs.length := by rw [← HM.out]; exact hlt
              obtain ⟨gq, oq, rfl, hgq, x0⟩ := (HKI.out wr ov3 HFI.out).at_ hjl
              have HFN := hid (fun a => found_any g (w.heap.size + 2) (.slice b bl bc) (.map (some w.heap.size)) ov3 _ 5 a wr HFJ.out (by omega) (by have := HFI.out.size; omega) (by have := HLEN.out j (by omega); omega))
              have HGJ := hid (HGS.out j hjl)
              generalize zs[j] = z at *
              clear hjl
              go_wp2_with fail
              refine (HFN.out z).mono ?_
              rintro e wF ⟨rfl, ov4, hfa4, hb4, ho4⟩
              clear x0
              go_wp2_with fail
              go_roundg (m - (j + 1))
              case measure => omega
              case rel => exact ⟨j + 1, ov4, by go_num, by omega, Nat.le_refl _, HGJ.out ▸ hfa4, HFI.out.found hb4 ho4⟩
            · have hlt' : ¬ (j : Int) < (m : Int) := by omega
              have hjm : j = m := by omega
              have HFE := hid (show FnAt wr g (w.heap.size + 2) (.slice b bl bc) (.map (some w.heap.size)) ov3 (endFg (finL s) (ks ++ [x])) by rw [← HGA.out, ← HM.out, ← hjm]; exact HFJ.out)
              have HRE := hid (HRN.out wr ov3 HFI.out)
              clear hjm
              go_wp2_with fail
              go_roundw
              case rel => exact ⟨_, cnt9, ks ++ [x], ov3, HRE.out, HL9.out, HNK.out, HFE.out, HFD9.out.trans HFI.out⟩
              case measure => rw [HRE.out.left_eq, HLE.out]; omega
end Go.Proofs.YtpnbkecchfhimaaGreatDoor
