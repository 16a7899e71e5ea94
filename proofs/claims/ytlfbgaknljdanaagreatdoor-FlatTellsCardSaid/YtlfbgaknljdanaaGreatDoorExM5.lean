/- Texts of ExG, ExI, merged by a program of mine. -/
import Derived.Test.YtlfbgaknljdanaaGreatDoorExM2
import Derived.Test.YtlfbgaknljdanaaGreatDoorTkR
import Derived.StillTailTactics

/- out of ExG -/
namespace Go.Proofs.YtlfbgaknljdanaaGreatDoor
open Go.RowKit Go.Shelf
open Go.Lib (hid)
set_option linter.unusedVariables false
set_option linter.unusedSimpArgs false
set_option maxRecDepth 100000

theorem TR.kept2 {g q : Nat} {w w' : World} {A : Option Addr} {n : Nat} {l : List Tk} (h : TR w A n l) (hk : Kept2 g q w w') (hne : ∀ b, A = some ⟨b, 0, none⟩ → b ≠ g ∧ b ≠ q) : TR w' A n l :=
  ⟨h.1, fun hn => by
    obtain ⟨b, e, hb, hz⟩ := h.2 hn
    exact ⟨b, e, Nat.lt_of_lt_of_le hb hk.size, fun j hj f hf => (hk.cell (p := ⟨b, j * 6 + f, none⟩) hb (hne b e).1 (hne b e).2).trans (hz j hj f hf)⟩⟩
theorem exGo_take {s : ByteArray} {i : Nat} (h : i < (toks s).length) : exGo s xs0 ((toks s).take (i + 1)) = ((exTake (exGo s xs0 ((toks s).take i)).1 (toks s)[i] (seg s (toks s)[i])).1, (exGo s xs0 ((toks s).take i)).2 ++ (exTake (exGo s xs0 ((toks s).take i)).1 (toks s)[i] (seg s (toks s)[i])).2) := by
  rw [List.take_add_one, List.getElem?_eq_getElem h]
  exact exGo_snoc s _ _ _
theorem upToV_name (s : ByteArray) (i : Nat) (kd : Int) (e : ByteArray) : (upToV s i kd e).name.size ≤ s.size := by
  unfold upToV
  cases upAt s e i with
  | none => exact Nat.zero_le _
  | some z => exact Nat.zero_le _
theorem namedV_name (s : ByteArray) (i : Nat) (kd : Int) : (namedV s i kd).name.size ≤ s.size := by
  show (lowerB (s.extract i (passTo nameC s i))).size ≤ s.size
  rw [lowerB_size, ByteArray.size_extract]
  omega
theorem headV_name (t : ByteArray) : (headV t).1.name.size ≤ t.size := by
  unfold headV
  split
  · exact upToV_name _ _ _ _
  · split
    · exact namedV_name _ _ _
    · split
      · exact upToV_name _ _ _ _
      · split
        · exact namedV_name _ _ _
        · exact Nat.zero_le _
theorem readV_name (s : ByteArray) (i : Nat) : (readV s i).1.name.size ≤ s.size := by
  unfold readV
  split
  · exact Nat.zero_le _
  · have := headV_name (s.extract (i : Int).toNat s.size)
    rw [ext_size] at this
    omega
theorem specA_name {s : ByteArray} {i : Nat} {sp : Sp} (h : specA s i = some sp) : sp.name.size ≤ s.size := by
  unfold specA at h
  split at h
  · split at h
    · injection h with h
      subst h
      exact readV_name s i
    · cases h
  · split at h
    · rw [Option.map_eq_some_iff] at h
      obtain ⟨p, hp, rfl⟩ := h
      exact Nat.zero_le _
    · split at h
      · injection h with h
        subst h
        exact Nat.zero_le _
      · cases h
theorem toksAt_name (s : ByteArray) : ∀ (d i : Nat), s.size - i ≤ d → ∀ t ∈ toksAt s i, t.name.size ≤ s.size := by
  intro d
  induction d with
  | zero =>
    intro i h t ht
    rw [toksAt_end (by omega)] at ht
    cases ht
  | succ d ih =>
    intro i h t ht
    by_cases hi : i < s.size
    · cases hs : specA s i with
      | none =>
        have h1 := scanTo_ge (specB s) s.size (i + 1)
        rw [toksAt_text hi hs] at ht
        rcases List.mem_cons.1 ht with rfl | ht
        · exact Nat.zero_le _
        · exact ih (textE s i) (by unfold textE; omega) t ht
      | some sp =>
        have hb := specA_bd hs
        have hn := specA_name hs
        by_cases hr : sp.raw = true ∧ i + sp.size < rawE s sp.name (i + sp.size)
        · rw [toksAt_raw hi hs hr] at ht
          rcases List.mem_cons.1 ht with rfl | ht
          · exact hn
          · rcases List.mem_cons.1 ht with rfl | ht
            · exact Nat.zero_le _
            · exact ih _ (by have := hr.2; omega) t ht
        · rw [toksAt_spec hi hs hr] at ht
          rcases List.mem_cons.1 ht with rfl | ht
          · exact hn
          · exact ih (i + sp.size) (by omega) t ht
    · rw [toksAt_end (by omega)] at ht
      cases ht
theorem name_size {s : ByteArray} {t : Tk} (h : t ∈ toks s) : t.name.size ≤ s.size := toksAt_name s _ 0 (Nat.le_refl _) t h
set_option maxHeartbeats 8000000 in
theorem exAll_any (a : Option Addr) (len cap : Nat) (s : ByteArray) (w : World) (hba : BA w a len cap s) (hmx : Mx w) (ht : TabSp w) (hm : len ≤ 1000000) :
    Calls Tryz.prog 16 #[.slice a len cap] w fun e W' => ∃ v, e = .returned v ∧ W'.ownsRow w.heap.size 34 7 v (exAll s).length (itCells (exAll s)) ∧ Below w.heap.size w W' := by
  obtain ⟨i0, hi, hz0, hz1, hz2⟩ := info_parts info_item
  have HNEW := hid (xNew_any w)
  have HALL := hid (fun W (h : Below w.heap.size w W) => tokAll_any a len cap s W (hba.below h (Nat.le_refl _)) (hmx.below h (Nat.le_refl _)) hm)
  have HBA := hid (fun W (h : Below w.heap.size w W) => hba.below h (Nat.le_refl _))
  have HTB := hid (fun W (h : Below w.heap.size w W) => ht.below h (Nat.le_refl _))
  have HLS := hid hba.1
  have HLN := hid (toks_len s)
  clear hba hmx ht
  go_enter Tryz.func16, Tryz.ntmps16
  go_wp2_with fail
  refine HNEW.out.mono ?_
  rintro e w1 ⟨⟨g, q, ty, ty2, rfl, hgq, hg, hq, hkq, hkg⟩, hb1⟩
  have HB1 := hid hb1
  have HGQ := hid (And.intro hgq (And.intro hkg.lt hkq.lt))
  have HGB := hid (And.intro hg hq)
  have HX1 := hid hkg
  have HK1 := hid hkq
  clear hb1 hgq hg hq hkq hkg
  go_wp2_with fail
  refine (HALL.out _ HB1.out).mono ?_
  rintro e w2 ⟨v, rfl, hmd, hb2⟩
  have hne := fun b (e : v.ownBlock = some b) => hmd.1.lt b e
  obtain ⟨A, tcap, rfl, htr⟩ := TR.of_made hmd
  have HNE := hid (show ∀ b, A = some ⟨b, 0, none⟩ → b ≠ g ∧ b ≠ q from fun b e => by
    have h1 := (hne b (by rw [e]; rfl)).1
    have := HGQ.out
    omega)
  have HTR := hid htr
  have HB2 := hid (HB1.out.trans (hb2.mono HB1.out.size))
  have HX2 := hid (HX1.out.below hb2 HGQ.out.2.1)
  have HK2 := hid (HK1.out.below hb2 HGQ.out.2.2)
  have hs12 := hb2.size
  have hs01 := HB1.out.size
  have HMEM := hid (fun j (h : j < (toks s).length) => toks_mem (List.getElem_mem h))
  have HNM := hid (fun j (h : j < (toks s).length) => name_size (List.getElem_mem h))
  have HEX := hid (fun j (h : j < (toks s).length) => exGo_take h)
  have HOK := hid (fun j => exGo_ok s ((toks s).take j) xs0 xs0_ok)
  have HPL := hid (fun j => exGo_pre_len s ((toks s).take j) ((toks s).drop j) (List.take_append_drop j _))
  clear hb2 hmd hne htr HX1 HK1 HNEW HALL
  obtain ⟨n, hn⟩ : ∃ n, n = (toks s).length := ⟨_, rfl⟩
  have HN := hid hn
  rw [← hn] at HTR ⊢
  have hn6 : n ≤ 1000000 := by have := HLN.out; have := HLS.out; omega
  clear hn
  go_wp2_with fail
  go_loopg [4, 11] n (fun kx s4 s11 wr => ∃ (v : Value) (i : Nat), s4 = v ∧ s11 = .int .i64 i ∧ i ≤ n ∧ n - i ≤ kx ∧ Hid (wr.ownsRow w2.heap.size 34 7 v (exGo s xs0 ((toks s).take i)).2.length (itCells (exGo s xs0 ((toks s).take i)).2)) ∧ Hid (Blk wr g ty2 (exCells q (exGo s xs0 ((toks s).take i)).1.fo (exGo s xs0 ((toks s).take i)).1.ch)) ∧ Hid (Blk wr q ty (exGo s xs0 ((toks s).take i)).1.n.cells) ∧ Hid (Kept2 g q w2 wr))
  case atStart => exact ⟨_, 0, rfl, rfl, Nat.zero_le _, Nat.le_refl _, World.ownsRow_nil _ _ _ _, HX2.out, HK2.out, Kept2.refl _ _ _⟩
  case round =>
    obtain ⟨v, i, rfl, rfl, hi1, hg1, HROW, HXR, HKR, HKP⟩ := hrel
    have hszr := HKP.out.size
    have HBR := hid (HB2.out.trans (HKP.out.below (by have := HB2.out.size; omega) HGB.out.1 HGB.out.2))
    by_cases hlt : i < n
    · have hlt' : (i : Int) < (n : Int) := by omega
      have hil : i < (toks s).length := by rw [← HN.out]; exact hlt
      obtain ⟨gt, rfl, hgl, x0, x1, x2, x3, x4, x5⟩ := (HTR.out.kept2 HKP.out HNE.out).at_ hil
      have HM := hid (HMEM.out i hil)
      have HNMI := hid (HNM.out i hil)
      have HEXI := hid (HEX.out i hil)
      have HOKI := hid (HOK.out i)
      have HPLI := hid (HPL.out (i + 1))
      have HTK := hid (fun W aa cc zs => xTake_any g q ty ty2 (exGo s xs0 ((toks s).take i)).1 (toks s)[i] aa cc zs W)
      generalize exGo s xs0 ((toks s).take i) = st at *
      obtain ⟨st2, hst2⟩ : ∃ st2, st2 = exGo s xs0 ((toks s).take (i + 1)) := ⟨_, rfl⟩
      rw [← hst2] at HEXI HPLI
      have HST2 := hid hst2
      clear hst2
      generalize (toks s)[i] = t at *
      go_upto_region 6 with fail
      clear x0 x1 x2 x3 x4 x5
      have hbk := Blk.new wr 30 #[.int .i64 t.kind, .int .i64 t.fr, .int .i64 t.til, .string t.name, .int .i32 t.r, .bool t.single]
      have x0 := hbk.cell 0
      have x1 := hbk.cell 1
      have x2 := hbk.cell 2
      have x3 := hbk.cell 3
      have x4 := hbk.cell 4
      have x5 := hbk.cell 5
      simp only [List.getElem?_toArray, List.getElem?_cons_zero, List.getElem?_cons_succ] at x0 x1 x2 x3 x4 x5
      have hbl := hbk.lt
      have HX3 := hid (HXR.out.alloc (.cells #[.int .i64 t.kind, .int .i64 t.fr, .int .i64 t.til, .string t.name, .int .i32 t.r, .bool t.single] 30))
      have HK3 := hid (HKR.out.alloc (.cells #[.int .i64 t.kind, .int .i64 t.fr, .int .i64 t.til, .string t.name, .int .i32 t.r, .bool t.single] 30))
      have HROW3 := hid (HROW.out.alloc (.cells #[.int .i64 t.kind, .int .i64 t.fr, .int .i64 t.til, .string t.name, .int .i32 t.r, .bool t.single] 30))
      have HKP3 := hid (HKP.out.trans (Kept2.of_below (g := g) (q := q) ((Below.refl wr.heap.size wr).alloc (Nat.le_refl _) (.cells #[.int .i64 t.kind, .int .i64 t.fr, .int .i64 t.til, .string t.name, .int .i32 t.r, .bool t.single] 30)) (Nat.le_refl _)))
      have HBR3 := hid (HBR.out.alloc (by have := HBR.out.size; omega) (.cells #[.int .i64 t.kind, .int .i64 t.fr, .int .i64 t.til, .string t.name, .int .i32 t.r, .bool t.single] 30))
      have hBx : wr.heap.size ≠ g ∧ wr.heap.size ≠ q := by have := HGQ.out; omega
      have HBX := hid hBx
      generalize wr.alloc (.cells #[.int .i64 t.kind, .int .i64 t.fr, .int .i64 t.til, .string t.name, .int .i32 t.r, .bool t.single] 30) = w3 at *
      have hba3 := HBA.out w3 HBR3.out
      have hm1 := HM.out
      have hl1 := HLS.out
      obtain ⟨hb0, hb1, hb2, hb3⟩ := hba3
      obtain ⟨b, off, rfl, hbz, hbz2⟩ := hb3 (by omega)
      have HBZ := hid (ba_seg hbz2 hbz hb0 hb1 hb2 (Nat.le_of_lt hm1.1) (by omega : t.til ≤ len))
      have hsl := slice_row b off len cap t.fr t.til (Nat.le_of_lt hm1.1) (by omega) (by omega)
      have HBG := hid (show b ≠ g from by
        obtain ⟨b', off', e, hlt', _⟩ := (HBA.out w (Below.refl _ _)).2.2.2 (by omega)
        cases e
        have := HGB.out
        omega)
      clear hbk hBx hb0 hb1 hb2 hb3 hbz hbz2 hm1 hl1
      refine wp_region_held_drew (S := fun w' : World => w'.cell? ⟨wr.heap.size, 0, none⟩ = some (.int .i64 t.kind) ∧ w'.cell? ⟨wr.heap.size, 1, none⟩ = some (.int .i64 t.fr) ∧ w'.cell? ⟨wr.heap.size, 2, none⟩ = some (.int .i64 t.til) ∧ w'.cell? ⟨wr.heap.size, 3, none⟩ = some (.string t.name) ∧ w'.cell? ⟨wr.heap.size, 4, none⟩ = some (.int .i32 t.r) ∧ w'.cell? ⟨wr.heap.size, 5, none⟩ = some (.bool t.single) ∧ wr.heap.size < w'.heap.size) (by kernel_rfl) ⟨x0, x1, x2, x3, x4, x5, hbl⟩ (fun hHeld => ?_)
      clear x0 x1 x2 x3 x4 x5
      refine wpAnyH_take (i := 0) (v := ?hv1) rfl (by kernel_rfl) (by kernel_rfl) (by kernel_rfl) (fun _ _ _ h => h) (Or.inl ⟨by rfl, ?hy1⟩) (by assumption) ?hr1
      case hy1 => (intro w hSw; (try dsimp only at hSw); go_simp; try with_reducible rfl)
      (try simp only [Act.put, List.getElem_toArray, List.getElem_cons_zero, List.setIfInBounds_toArray, List.set_cons_zero, List.set_cons_succ])
      refine wpAnyH_take (i := 1) (v := ?hv2) rfl (by kernel_rfl) (by kernel_rfl) (by kernel_rfl) (fun _ _ _ h => h) (Or.inl ⟨by rfl, ?hy2⟩) (by assumption) ?hr2
      case hy2 => (intro w hSw; (try dsimp only at hSw); go_simp; try with_reducible rfl)
      (try simp only [Act.put, List.getElem_toArray, List.getElem_cons_zero, List.getElem_cons_succ, List.setIfInBounds_toArray, List.set_cons_zero, List.set_cons_succ])
      refine wpAnyH_take (i := 2) (v := ?hv3) rfl (by kernel_rfl) (by kernel_rfl) (by kernel_rfl) (fun _ _ _ h => h) (Or.inl ⟨by rfl, ?hy3⟩) (by assumption) ?hr3
      case hy3 => (intro w hSw; (try dsimp only at hSw); go_simp; try with_reducible rfl)
      (try simp only [Act.put, List.getElem_toArray, List.getElem_cons_zero, List.getElem_cons_succ, List.setIfInBounds_toArray, List.set_cons_zero, List.set_cons_succ])
      refine wpAnyH_take (i := 3) (v := ?hv4) rfl (by kernel_rfl) (by kernel_rfl) (by kernel_rfl) (fun _ _ _ h => h) (Or.inl ⟨by rfl, ?hy4⟩) (by assumption) ?hr4
      case hy4 => (intro w hSw; (try dsimp only at hSw); go_simp; try with_reducible rfl)
      (try simp only [Act.put, List.getElem_toArray, List.getElem_cons_zero, List.getElem_cons_succ, List.setIfInBounds_toArray, List.set_cons_zero, List.set_cons_succ])
      refine wpAnyH_take (i := 4) (v := ?hv5) rfl (by kernel_rfl) (by kernel_rfl) (by kernel_rfl) (fun _ _ _ h => h) (Or.inl ⟨by rfl, ?hy5⟩) (by assumption) ?hr5
      case hy5 => (intro w hSw; (try dsimp only at hSw); go_simp; try with_reducible rfl)
      (try simp only [Act.put, List.getElem_toArray, List.getElem_cons_zero, List.getElem_cons_succ, List.setIfInBounds_toArray, List.set_cons_zero, List.set_cons_succ])
      refine wpAnyH_take (i := 5) (v := ?hv6) rfl (by kernel_rfl) (by kernel_rfl) (by kernel_rfl) (fun _ _ _ h => h) (Or.inl ⟨by rfl, ?hy6⟩) (by assumption) ?hr6
      case hy6 => (intro w hSw; (try dsimp only at hSw); go_simp; try with_reducible rfl)
      (try simp only [Act.put, List.getElem_toArray, List.getElem_cons_zero, List.getElem_cons_succ, List.setIfInBounds_toArray, List.set_cons_zero, List.set_cons_succ])
      refine wpAnyH_take (i := 6) (v := ?hv7) rfl (by kernel_rfl) (by kernel_rfl) (by kernel_rfl) (fun _ _ _ h => h) (Or.inl ⟨by rfl, ?hy7⟩) (by assumption) ?hr7
      case hy7 => (intro w hSw; (try dsimp only at hSw); go_simp; try with_reducible rfl)
      (try simp only [Act.put, List.getElem_toArray, List.getElem_cons_zero, List.getElem_cons_succ, List.setIfInBounds_toArray, List.set_cons_zero, List.set_cons_succ])
      refine wpAnyH_take (i := 7) (v := ?hv8) rfl (by kernel_rfl) (by kernel_rfl) (by kernel_rfl) (fun _ _ _ h => h) (Or.inl ⟨by rfl, ?hy8⟩) (by assumption) ?hr8
      case hy8 => (intro w hSw; (try dsimp only at hSw); go_simp; try with_reducible rfl)
      (try simp only [Act.put, List.getElem_toArray, List.getElem_cons_zero, List.getElem_cons_succ, List.setIfInBounds_toArray, List.set_cons_zero, List.set_cons_succ])
      refine wpAnyH_take (i := 8) (v := ?hv9) rfl (by kernel_rfl) (by kernel_rfl) (by kernel_rfl) (fun _ _ _ h => h) (Or.inl ⟨by rfl, ?hy9⟩) (by assumption) ?hr9
      case hy9 => (intro w hSw; (try dsimp only at hSw); go_simp; try with_reducible rfl)
      (try simp only [Act.put, List.getElem_toArray, List.getElem_cons_zero, List.getElem_cons_succ, List.setIfInBounds_toArray, List.set_cons_zero, List.set_cons_succ])
      refine wpAnyH_ready (rs := [9]) (by kernel_rfl) (by simp) ?_
      refine AllReadyH.cons rfl (fun K hK => ?_) AllReadyH.nil
      go_simp
      go_at_call 15
      have hcall := HTK.out w3.drew (some ⟨b, off + t.fr, none⟩) (cap - t.fr) (seg s t) HK3.out.drew HX3.out.drew HGQ.out.1 HOKI.out (by have := HNMI.out; have := HLS.out; unfold maxLen; omega) (HTB.out _ HBR3.out.drew) (sb_of_ba HBZ.out).1 (by have h1 := HM.out; have := HLS.out; rw [seg_len h1.2.1]; omega) (Nat.le_of_lt HM.out.1) (by have := HM.out; have := HLS.out; omega) (fun b' off' e => by cases e; exact HBG.out)
      rw [seg_len HM.out.2.1] at hcall
      simp only [tkC] at hcall
      refine hcall.mono ?_
      rintro e w5 ⟨v', rfl, hr5, hx5, hk5, hkp5⟩
      have hR := HEXI.out
      have hS5 := NB_next2 (h := hHeld) hkp5 HBX.out.1 HBX.out.2
      obtain ⟨va, vc, rfl⟩ := owns_slice hr5
      have HRD := hid (Reads.of_own hr5)
      have HX5 := hid hx5
      have HK5 := hid hk5
      have HKP5 := hid (HKP3.out.trans ((⟨rfl, rfl, rfl, Nat.le_refl _, fun _ _ _ _ => rfl⟩ : Kept2 g q w3 w3.drew).trans hkp5))
      have HROW5 := hid (hkp5.own HROW3.out.drew (Nat.lt_of_lt_of_le HGQ.out.2.1 hs12) (Nat.lt_of_lt_of_le HGQ.out.2.2 hs12))
      have HS5 := hid hS5
      have HLE5 := hid hr5.1
      generalize exTake st.1 t (seg s t) = R at *
      obtain ⟨x', l'⟩ := R
      simp only at *
      clear hcall hr5 hx5 hk5 hkp5 hS5
      go_wp2_with fail
      refine hK.out _ _ HS5.out (fun hHeld2 => ?_)
      clear hK K hHeld
      refine wpAnyH_ready (rs := [10]) (by kernel_rfl) (by simp) ?_
      refine AllReadyH.cons rfl (fun K hK => ?_) AllReadyH.nil
      rw [if_pos (by kernel_rfl)]
      have hlt5 := hHeld2.2.2.2.2.2.2
      have hp1 : l'.length + st.2.length ≤ 1000000 := by
        have h1 := HPLI.out
        have := HLS.out
        rw [hR] at h1
        simp only [List.length_append] at h1
        omega
      have HP1 := hid hp1
      refine wp_append_any _ (.tmp 15) (.tmp 24) 26 rfl w2.heap.size 34 i0 (.agg it0) 7 32 Tryz.underlying26 hi hz0 hz1 hz2 rfl (by decide) u4 st.2.length (itCells st.2) rfl HROW5.out w5.heap.size va l'.length vc (itCells l') rfl HRD.out (itCells_one l') (by unfold maxLen; omega) (by omega) (by omega) ?_
      intro v6 w6 hown6 hgrow6 _
      have HROW6 := hid hown6
      have HX6 := hid (HX5.out.grown hgrow6 (fun e => by have := (HROW5.out.lt g e.symm).1; have := HGQ.out; omega))
      have HK6 := hid (HK5.out.grown hgrow6 (fun e => by have := (HROW5.out.lt q e.symm).1; have := HGQ.out; omega))
      have HKP6 := hid (HKP5.out.grown hgrow6 (fun j e => (HROW5.out.lt j e).1))
      have hS6 : w6.cell? ⟨wr.heap.size, 0, none⟩ = some (.int .i64 t.kind) ∧ w6.cell? ⟨wr.heap.size, 1, none⟩ = some (.int .i64 t.fr) ∧ w6.cell? ⟨wr.heap.size, 2, none⟩ = some (.int .i64 t.til) ∧ w6.cell? ⟨wr.heap.size, 3, none⟩ = some (.string t.name) ∧ w6.cell? ⟨wr.heap.size, 4, none⟩ = some (.int .i32 t.r) ∧ w6.cell? ⟨wr.heap.size, 5, none⟩ = some (.bool t.single) ∧ wr.heap.size < w6.heap.size := by
        have hne : some wr.heap.size ≠ u4.ownBlock := fun e => by have := (HROW.out.lt _ e.symm).2; omega
        have hc : ∀ o, w6.cell? ⟨wr.heap.size, o, none⟩ = w5.cell? ⟨wr.heap.size, o, none⟩ := fun o => hgrow6.cell_far ⟨wr.heap.size, o, none⟩ hlt5 hne
        obtain ⟨y0, y1, y2, y3, y4, y5, y7⟩ := hHeld2
        exact ⟨(hc 0).trans y0, (hc 1).trans y1, (hc 2).trans y2, (hc 3).trans y3, (hc 4).trans y4, (hc 5).trans y5, Nat.lt_of_lt_of_le y7 hgrow6.size⟩
      clear hown6 hgrow6
      refine hK.out _ _ hS6 (fun hHeld3 => ?_)
      clear hK K hHeld2 hS6
      refine wpAnyH_take (i := 11) (v := ?hv10) rfl (by kernel_rfl) (by kernel_rfl) (by kernel_rfl) (fun _ _ _ h => h) (Or.inl ⟨by rfl, ?hy10⟩) (by assumption) ?hr10
      case hy10 => (intro w hSw; (try dsimp only at hSw); go_simp; try with_reducible rfl)
      (try simp only [Act.put, List.getElem_toArray, List.getElem_cons_zero, List.getElem_cons_succ, List.setIfInBounds_toArray, List.set_cons_zero, List.set_cons_succ])
      refine wpAnyH_done (by kernel_rfl) ?_ _
      clear hHeld3 hp1 hlt5 hR
      go_wp2_with fail
      go_roundg (n - (i + 1))
      case measure => omega
      case rel => exact ⟨v6, i + 1, rfl, by go_num, by omega, Nat.le_refl _, by show World.ownsRow _ _ _ _ _ _ _; rw [← HST2.out, HEXI.out]; show World.ownsRow _ _ _ _ _ (st.2 ++ l').length (itCells (st.2 ++ l')); rw [List.length_append, itCells_app]; exact HROW6.out, by show Blk _ _ _ _; rw [← HST2.out, HEXI.out]; exact HX6.out, by show Blk _ _ _ _; rw [← HST2.out, HEXI.out]; exact HK6.out, HKP6.out⟩
    · obtain rfl : i = n := by omega
      have HEND := hid (show exGo s xs0 ((toks s).take i) = exGo s xs0 (toks s) by rw [HN.out, List.take_length])
      rw [HEND.out] at HROW
      clear hlt hn6
      go_wp2
      go_ret
      exact ⟨_, rfl, owns_base HROW.out (Nat.le_trans hs01 hs12), HBR.out⟩
end Go.Proofs.YtlfbgaknljdanaaGreatDoor

/- out of ExI -/
namespace Go.Proofs.YtlfbgaknljdanaaGreatDoor
open Go.RowKit Go.Shelf
open Go.Lib (hid)
set_option linter.unusedVariables false
set_option linter.unusedSimpArgs false
set_option maxRecDepth 100000

/-- A slice that reads as items. -/
def IR (w : World) (A : Option Addr) (n : Nat) (l : List It) : Prop :=
  n = l.length ∧ (0 < n → ∃ g, A = some ⟨g, 0, none⟩ ∧ g < w.heap.size ∧ ∀ (j : Nat) (h : j < l.length) (f : Nat), f < 7 → w.cell? ⟨g, j * 7 + f, none⟩ = (itC l[j])[f]?)
theorem IR.below {w w' : World} {A : Option Addr} {n B : Nat} {l : List It} (h : IR w A n l) (hb : Below B w w') (hB : w.heap.size ≤ B) : IR w' A n l :=
  ⟨h.1, fun hn => by
    obtain ⟨g, e, hg, hz⟩ := h.2 hn
    exact ⟨g, e, Nat.lt_of_lt_of_le hg hb.size, fun j hj f hf => (hb.cell (p := ⟨g, j * 7 + f, none⟩) (by show g < B; omega)).trans (hz j hj f hf)⟩⟩
theorem IR.of_own {n₀ : Nat} {t : TypeId} {W : World} {v : Value} {l : List It} (h : W.ownsRow n₀ t 7 v l.length (itCells l)) : ∃ A cap, v = .slice A l.length cap ∧ IR W A l.length l := by
  obtain ⟨A, cap, rfl⟩ := owns_slice h
  refine ⟨A, cap, rfl, rfl, fun hn => ?_⟩
  obtain ⟨k, hk⟩ : ∃ k, l.length = k + 1 := ⟨l.length - 1, by omega⟩
  rw [hk] at h
  obtain ⟨g, cap', e⟩ := ownsRow_succ (k := k) h
  injection e with e1 _ e3
  subst e1
  refine ⟨g, rfl, (h.lt g rfl).2, fun j hj f hf => ?_⟩
  rw [← itCells_get l j hj f hf]
  exact h.cellAt (j * 7 + f) (by omega)
theorem IR.at_ {w : World} {A : Option Addr} {n : Nat} {l : List It} (h : IR w A n l) {j : Nat} (hj : j < l.length) : ∃ g, A = some ⟨g, 0, none⟩ ∧ g < w.heap.size ∧ w.cell? ⟨g, j * 7, none⟩ = some (.int .i32 l[j].r) ∧ w.cell? ⟨g, j * 7 + 1, none⟩ = some (.int .i64 l[j].at_) ∧ w.cell? ⟨g, j * 7 + 2, none⟩ = some (.int .i64 l[j].sz) ∧ w.cell? ⟨g, j * 7 + 3, none⟩ = some (.bool l[j].fo) ∧ w.cell? ⟨g, j * 7 + 4, none⟩ = some (.bool l[j].ch) ∧ w.cell? ⟨g, j * 7 + 5, none⟩ = some (.bool l[j].nb) ∧ w.cell? ⟨g, j * 7 + 6, none⟩ = some (.bool l[j].pr) := by
  have h1 := h.1
  obtain ⟨g, e, hg, hz⟩ := h.2 (by omega)
  exact ⟨g, e, hg, hz j hj 0 (by decide), hz j hj 1 (by decide), hz j hj 2 (by decide), hz j hj 3 (by decide), hz j hj 4 (by decide), hz j hj 5 (by decide), hz j hj 6 (by decide)⟩
def exB : ByteArray := ⟨#[97, 60, 98, 114, 62, 38, 108, 116, 59]⟩
def exBC : Array Value := #[.int .u8 97, .int .u8 60, .int .u8 98, .int .u8 114, .int .u8 62, .int .u8 38, .int .u8 108, .int .u8 116, .int .u8 59]
theorem exB_cells : exBC = exB.data.map fun b => Value.int .u8 b.toNat := by kernel_rfl
theorem exB_toks : toks exB = [⟨0, 0, 1, noB, 0, false⟩, ⟨2, 1, 5, ⟨#[98, 114]⟩, 0, false⟩, ⟨1, 5, 9, noB, 60, false⟩] := by kernel_rfl
theorem exB_all : exAll exB = [⟨97, 0, 1, false, false, false, false⟩, ⟨60, 5, 4, true, false, false, false⟩] := by
  unfold exAll
  rw [exB_toks]
  kernel_rfl
set_option maxHeartbeats 8000000 in
theorem exawake_any (w : World) (ht : TabSp w) (hmx : Mx w) : Calls Tryz.prog 12 #[] w fun e w' => e = .returned (.bool true) ∧ Below w.heap.size w w' := by
  have kc := Lib.run_convert_bytes_const (P := Tryz.prog) w 22 5 exBC 9 9 Tryz.underlying22 Tryz.underlying5
  simp only [exBC, List.size_toArray, List.length_cons, List.length_nil, Nat.reduceAdd] at kc
  have hcell := fun i => cell_of_row _ w.heap.size i _ _ _ (heap_alloc_new w (.cells exBC 5 (9, 10)))
  have hb1 := (Below.refl w.heap.size w).alloc (Nat.le_refl _) (.cells exBC 5 (9, 10))
  have hz : Lib.Bytes (w.alloc (.cells exBC 5 (9, 10))) w.heap.size 0 exB := by
    intro i hi
    rw [Nat.zero_add, hcell i, exB_cells, Array.getElem?_map]
    have hi' : i < exB.data.size := hi
    rw [Array.getElem?_eq_getElem hi']
    rfl
  have hba : BA (w.alloc (.cells exBC 5 (9, 10))) (some ⟨w.heap.size, 0, none⟩) 9 9 exB := ⟨rfl, Nat.le_refl _, by decide, fun _ => ⟨w.heap.size, 0, rfl, by simp, hz⟩⟩
  have hall := exAll_any _ 9 9 exB _ hba (hmx.below hb1 (Nat.le_refl _)) (ht.below hb1 (Nat.le_refl _)) (by decide)
  rw [exB_all] at hall
  have HALL := hid hall
  have HB1 := hid hb1
  clear hba hz hb1 hall hcell ht hmx
  go_enter Tryz.func12, Tryz.ntmps12
  go_wp2_with fail
  refine HALL.out.mono ?_
  rintro e w2 ⟨v, rfl, hrow, hb2⟩
  obtain ⟨A, cap, rfl, hir⟩ := IR.of_own hrow
  obtain ⟨g, rfl, hgl, x0, x1, x2, x3, x4, x5, x6⟩ := hir.at_ (j := 0) (by decide)
  obtain ⟨g', e, _, y0, y1, y2, y3, y4, y5, y6⟩ := hir.at_ (j := 1) (by decide)
  cases e
  have HB2 := hid (HB1.out.trans (hb2.mono HB1.out.size))
  simp only [List.getElem_cons_zero, List.getElem_cons_succ, Nat.zero_mul, Nat.one_mul, Nat.reduceAdd] at x0 x1 x2 x3 x4 x5 x6 y0 y1 y2 y3 y4 y5 y6
  clear kc hrow hb2 hir
  go_wp2_with fail
  go_ret
  exact ⟨rfl, HB2.out⟩
end Go.Proofs.YtlfbgaknljdanaaGreatDoor
