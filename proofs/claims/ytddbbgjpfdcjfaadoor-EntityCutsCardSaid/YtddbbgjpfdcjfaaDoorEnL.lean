/- Chapter 16: entity.Read: the walk. -/
import Derived.Test.YtddbbgjpfdcjfaaDoorEnK
namespace Go.Proofs.YtddbbgjpfdcjfaaDoor
open Go.RowKit
open Go.Shelf
open Go.Lib (hid)
set_option linter.unusedVariables false

/-- What a form's bytes are like. -/
theorem fm_facts (t : ByteArray) (h0 : 0 < t.size) : (fmOf t).skip ≤ runE t ∧ runE t ≤ t.size ∧ runE t - (fmOf t).skip ≤ 7 ∧ (fmOf t).skip ≤ 3 ∧
    ((fmOf t).base ≠ 0 → ((fmOf t).base = 10 ∨ (fmOf t).base = 16) ∧ ∀ i, i < (t.extract (fmOf t).skip (runE t)).size → pOf (fmOf t).base (byt (t.extract (fmOf t).skip (runE t)) i) = true) := by
  have hge := runTo_ge (fmOf t).p t (fmOf t).most (fmOf t).skip
  change _ ≤ runE t ∧ runE t ≤ _ at hge
  have hle : runE t ≤ t.size := by
    rcases fm_cases t with ⟨hf, k1, k2, k3⟩ | ⟨hf, k1, k2, k3⟩ | ⟨hf, k1⟩
    all_goals
      rw [fm_eq hf]
      exact runTo_le _ t _ _ (by first | exact k1 | exact h0)
  have hall := fun j => runTo_all (fmOf t).p t (fmOf t).most (fmOf t).skip j
  change ∀ j, _ → j < runE t → _ at hall
  have hd : ∀ i, i < (t.extract (fmOf t).skip (runE t)).size → (fmOf t).p (byt (t.extract (fmOf t).skip (runE t)) i) = true := fun i hi => by
    rw [ByteArray.size_extract] at hi
    rw [byt_extract t _ _ i (by omega) hle]
    exact (hall _ (by omega) (by omega)).2
  rcases fm_cases t with ⟨hf, k1, k2, k3⟩ | ⟨hf, k1, k2, k3⟩ | ⟨hf, k1⟩
  · rw [hf] at hge hd ⊢
    have h2 := hge.2
    simp only [fmHex] at h2
    refine ⟨hge.1, hle, ?_, Nat.le_refl 3, fun _ => ⟨.inr rfl, fun i hi => ?_⟩⟩
    · simp only [fmHex]; omega
    · have := hd i hi
      rw [fp_hex] at this
      exact this
  · rw [hf] at hge hd ⊢
    have h2 := hge.2
    simp only [fmDec] at h2
    refine ⟨hge.1, hle, ?_, by decide, fun _ => ⟨.inl rfl, fun i hi => ?_⟩⟩
    · simp only [fmDec]; omega
    · have := hd i hi
      rw [fp_dec] at this
      exact this
  · rw [hf] at hge ⊢
    have h2 := hge.2
    simp only [fmLet] at h2
    refine ⟨hge.1, hle, ?_, by decide, fun h => absurd rfl h⟩
    simp only [fmLet]; omega

set_option maxRecDepth 100000 in
set_option maxHeartbeats 8000000 in
theorem entread_any (a : Option Addr) (n cap : Nat) (i : Int) (s : ByteArray) (w : World) (hb : BA w a n cap s) (hm : n ≤ 1000000) (hi63 : i ≤ 9223372036854775807) :
    Calls Tryd.prog 9 #[.slice a n cap, .int .i64 i] w fun e w' => e = .returned (pairV (entR s i)) ∧ Below w.heap.size w w' := by
  have hns := hb.1
  by_cases h0 : i < 0
  · have HR := hid (show entR s i = none from if_neg fun h => by omega)
    clear hb
    go_enter Tryd.func9, Tryd.ntmps9
    go_wp2_with fail
    go_ret2
    rw [HR.out]
    exact ⟨rfl, Below.refl _ _⟩
  by_cases h1 : (n : Int) ≤ i
  · have HR := hid (show entR s i = none from if_neg fun h => by omega)
    clear hb
    go_enter Tryd.func9, Tryd.ntmps9
    go_wp2_with fail
    go_ret2
    rw [HR.out]
    exact ⟨rfl, Below.refl _ _⟩
  obtain ⟨i, rfl⟩ : ∃ k : Nat, i = k := ⟨i.toNat, by omega⟩
  have hin : i < n := by omega
  have hcap := hb.2.1
  have hc63 := hb.2.2.1
  obtain ⟨b, off, rfl, hbl, hz⟩ := hb.2.2.2 (by omega)
  have hcell := bytes_cell hz (i := i) (by omega)
  by_cases h38 : byt s i ≠ 38
  · have HR := hid (show entR s i = none from if_neg fun h => h38 h.2.2)
    generalize byt s i = c at *
    have hcb : (c == 38) = false := by simpa using h38
    have hcb2 : (c != 38) = true := by simpa using h38
    have HNS := hid hns
    clear hb hz h38 hns
    go_enter Tryd.func9, Tryd.ntmps9
    go_wp2_with fail
    go_ret2
    rw [HR.out]
    exact ⟨rfl, Below.refl _ _⟩
  have h38 : byt s i = 38 := Classical.byContradiction h38
  rw [h38] at hcell
  have hent : entR s i = entH (s.extract i s.size) := if_pos ⟨by omega, by omega, h38⟩
  obtain ⟨m, hmd⟩ : ∃ m, m = n - i := ⟨_, rfl⟩
  have hsl := slice_tail b off n cap i (by omega) hcap
  rw [show offIf cap i off = off + i from if_neg (by omega), ← hmd] at hsl
  have hzt : ∀ W, Below w.heap.size w W → Lib.Bytes W b (off + i) (s.extract i s.size) := fun W hW => bytes_of_byt fun j hj => by
    rw [ByteArray.size_extract] at hj
    rw [hW.cell (p := ⟨b, _, none⟩) hbl, Nat.add_assoc, bytes_cell hz (i := i + j) (by omega), byt_extract s i s.size j (by omega) (Nat.le_refl _)]
  have hts : (s.extract i s.size).size = m := by rw [ByteArray.size_extract]; omega
  have ht38 : byt (s.extract i s.size) 0 = 38 := by rw [byt_extract s i s.size 0 (by omega) (Nat.le_refl _)]; exact h38
  generalize s.extract i s.size = t at *
  obtain ⟨cp, hcp⟩ : ∃ cp, cp = cap - i := ⟨_, rfl⟩
  rw [← hcp] at hsl
  have hmcp : m ≤ cp := by omega
  have hm0 : 0 < m := by omega
  have hm6 : m ≤ 1000000 := by omega
  have HFO := hid (formOf_any b (off + i) m cp t w hts.symm hmcp hm0 hm6 (hzt w (Below.refl _ _)) hbl ht38)
  have hrun := fun W (hW : Below w.heap.size w W) => run_any b (off + i) m cp t W hts.symm hmcp hm0 hm6 (hzt W hW) (Nat.lt_of_lt_of_le hbl hW.size)
  have hff := fm_facts t (by omega)
  have hEH : entH t = if runE t = (fmOf t).skip ∨ m ≤ runE t ∨ byt t (runE t) ≠ 59 then none
      else if (fmOf t).base = 0 then (findN (t.extract (fmOf t).skip (runE t))).map fun r => (r, runE t + 1)
      else some (scal (numV (fmOf t).base (t.extract (fmOf t).skip (runE t))), runE t + 1) := by unfold entH; rw [hts]
  have hfmV : fmV (fmOf t) = #[.int .i64 (fmOf t).skip, .int .i64 (fmOf t).most, .func (.func (gOf (fmOf t))) #[] #[], .int .i64 (fmOf t).base] := rfl
  rw [hfmV] at HFO hrun
  generalize gOf (fmOf t) = gf at *
  generalize (fmOf t).most = mo at *
  generalize hba : (fmOf t).base = ba at *
  generalize (fmOf t).skip = sk at *
  clear hba
  obtain ⟨f1, f2, f3, f4, f5⟩ := hff
  rw [hEH] at hent
  generalize runE t = e at *
  have HENT := hid hent
  have HZT := hid hzt
  have HTS := hid hts
  have HRUN := hid hrun
  have HF5 := hid f5
  have HNS := hid hns
  clear hent hzt hts hrun f5 hEH hfmV hb hz hmd hcp hns
  go_enter Tryd.func9, Tryd.ntmps9
  go_wp2_with fail
  refine HFO.out.mono ?_
  rintro e2 w2 ⟨rfl, hb2⟩
  go_upto_region 5 with ((with_reducible refine wpList_store_row (o := ⟨none, .store 43 (.tmp 6) (.tmp 31), _, _, _, _⟩) rfl 43 _ _ rfl w2.heap.size #[.int .i64 sk, .int .i64 mo, .func (.func gf) #[] #[], .int .i64 ba] rfl rfl 43 #[.int .i64 0, .int .i64 0, .nilFunc, .int .i64 0] (heap_alloc_new _ _) (by kernel_rfl) (by kernel_rfl) (by kernel_rfl) ?_))
  have hr3 : Blk ((w2.alloc (.cells #[.int .i64 0, .int .i64 0, .nilFunc, .int .i64 0] 43)).setRow w2.heap.size #[.int .i64 sk, .int .i64 mo, .func (.func gf) #[] #[], .int .i64 ba]) w2.heap.size 43 #[.int .i64 sk, .int .i64 mo, .func (.func gf) #[] #[], .int .i64 ba] := setRow_heap _ _ _ _ _ _ (heap_alloc_new w2 _)
  have hb3 : Below w.heap.size w ((w2.alloc (.cells #[.int .i64 0, .int .i64 0, .nilFunc, .int .i64 0] 43)).setRow w2.heap.size #[.int .i64 sk, .int .i64 mo, .func (.func gf) #[] #[], .int .i64 ba]) := by
    have hg := hb2.size
    refine hb2.trans ?_
    exact ⟨rfl, rfl, rfl, by simp, fun k hk => by rw [setRow_other _ _ _ _ (by omega)]; exact Below.heap_alloc _ _ _ (by omega)⟩
  generalize (w2.alloc (.cells #[.int .i64 0, .int .i64 0, .nilFunc, .int .i64 0] 43)).setRow w2.heap.size #[.int .i64 sk, .int .i64 mo, .func (.func gf) #[] #[], .int .i64 ba] = w3 at *
  have k0 := hr3.cell 0
  have k1 := hr3.cell 1
  have k2 := hr3.cell 2
  have k3 := hr3.cell 3
  simp only [List.getElem?_toArray, List.getElem?_cons_zero, List.getElem?_cons_succ] at k0 k1 k2 k3
  have HB3 := hid hb3
  have HR3 := hid hr3
  have HRN := hid (HRUN.out w3 hb3)
  clear hb3 hr3 hb2 hsl hcell h38
  go_wp2_with fail
  refine HRN.out.mono ?_
  rintro e2 w4 ⟨rfl, hb4⟩
  have hr4 := HR3.out.below hb4 HR3.out.lt
  have HB4 := hid (HB3.out.trans (hb4.mono HB3.out.size))
  have k0 := hr4.cell 0
  have k1 := hr4.cell 1
  have k3 := hr4.cell 3
  simp only [List.getElem?_toArray, List.getElem?_cons_zero, List.getElem?_cons_succ] at k0 k1 k3
  obtain ⟨k, hk⟩ : ∃ k, k = e - sk := ⟨_, rfl⟩
  rw [← hk]
  have HK7 := hid (show k ≤ 7 by omega)
  have hke : (sk : Int) + (k : Int) = (e : Int) := by omega
  have hwe : IntKind.i64.wrap (e : Int) = (e : Int) := IntWalk.i64_in _ (by have := HTS.out; omega)
  have HK := hid hk
  clear hk hb4 hr4 HRN HRUN HFO
  have hzt4 := HZT.out w4 HB4.out
  have hn0 : ∀ q : Option (Int × Nat), q = none → pairV q = .tuple #[.int .i32 0, .int .i64 0] := fun q h => by rw [h]; rfl
  have HN0 := hid hn0
  clear hn0
  by_cases hk0 : k = 0
  · subst hk0
    have HR := hid (HN0.out _ (HENT.out.trans (if_pos (.inl (by have := HK.out; omega)))))
    clear hzt4
    go_wp2_with fail
    go_ret2
    rw [HR.out]
    exact ⟨rfl, HB4.out⟩
  have HK0 := hid (show 0 < k by omega)
  have hk0b : ((k : Int) == 0) = false := by rw [beq_eq_false_iff_ne]; omega
  by_cases hme : m ≤ e
  · have hme' : (m : Int) ≤ (e : Int) := by omega
    have HR := hid (HN0.out _ (HENT.out.trans (if_pos (.inr (.inl hme)))))
    clear hzt4
    go_wp2_with fail
    go_ret2
    rw [HR.out]
    exact ⟨rfl, HB4.out⟩
  have hme' : ¬ (m : Int) ≤ (e : Int) := by omega
  have hem : (e : Int) < (m : Int) := by omega
  have hce := bytes_cell hzt4 (i := e) (by have := HTS.out; omega)
  by_cases h59 : byt t e ≠ 59
  · have HR := hid (HN0.out _ (HENT.out.trans (if_pos (.inr (.inr h59)))))
    generalize byt t e = ce at *
    have hcb : (ce == 59) = false := by simpa using h59
    have hcb2 : (ce != 59) = true := by simpa using h59
    clear hzt4 h59
    go_wp2_with fail
    go_ret2
    rw [HR.out]
    exact ⟨rfl, HB4.out⟩
  have h59 : byt t e = 59 := Classical.byContradiction h59
  have hent := HENT.out
  rw [if_neg (fun h => by rcases h with h | h | h; (· have := HK.out; omega); (· exact hme h); (· exact h h59))] at hent
  rw [h59] at hce
  have hsl := fun W => slice_row b (off + i) m cp sk e f1 (by omega) (by omega) W
  have hcv := conv_sub hzt4 sk e (cp - sk) f1 f2
  have hxz : (t.extract sk e).size = k := by have := HK.out; rw [ByteArray.size_extract]; omega
  have hf5 := HF5.out
  generalize t.extract sk e = x at *
  have HENT2 := hid hent
  have HXZ := hid hxz
  have HF6 := hid hf5
  clear hent hxz hf5 hzt4 h59 HENT HF5 hk0
  have he1 : ((e + 1 : Nat) : Int) = (e : Int) + 1 := by omega
  by_cases hba : ba = 0
  · subst hba
    have hent2 := HENT2.out
    rw [if_pos rfl] at hent2
    have hfi := fun W => find_any x W
    cases hf : findN x with
    | none =>
      rw [hf] at hent2 hfi
      have HR := hid (HN0.out _ hent2)
      have HFI := hid hfi
      clear hent2 hfi hf
      go_wp2_with fail
      refine (HFI.out _).mono ?_
      rintro e2 w5 ⟨rfl, hb5⟩
      have HB5 := hid (HB4.out.trans (hb5.mono HB4.out.size))
      clear hb5
      go_wp2_with fail
      go_ret2
      rw [HR.out]
      exact ⟨rfl, HB5.out⟩
    | some r =>
      rw [hf] at hent2 hfi
      have HR := hid (show pairV (entR s i) = .tuple #[.int .i32 r, .int .i64 ((e : Int) + 1)] by rw [hent2]; rfl)
      have HFI := hid hfi
      clear hent2 hfi hf
      go_wp2_with fail
      refine (HFI.out _).mono ?_
      rintro e2 w5 ⟨rfl, hb5⟩
      have HB5 := hid (HB4.out.trans (hb5.mono HB4.out.size))
      clear hb5
      go_wp2_with fail
      go_ret2
      rw [HR.out]
      exact ⟨rfl, HB5.out⟩
  · have hent2 := HENT2.out
    rw [if_neg hba] at hent2
    obtain ⟨hb1, hb2⟩ := HF6.out hba
    have hnu := fun W => numbered_any ba hb1 x (by have := HXZ.out; have := HK0.out; omega) (by have := HXZ.out; have := HK7.out; omega) hb2 W
    have hba0 : (0 : Int) < (ba : Int) := by omega
    generalize scal (numV (ba : Int) x) = r at *
    have HR := hid (show pairV (entR s i) = .tuple #[.int .i32 r, .int .i64 ((e : Int) + 1)] by rw [hent2]; rfl)
    have HNU := hid hnu
    clear hent2 hnu hb1 hb2 hba
    go_wp2_with fail
    refine (HNU.out _).mono ?_
    rintro e2 w5 ⟨rfl, hb5⟩
    have HB5 := hid (HB4.out.trans (hb5.mono HB4.out.size))
    clear hb5
    go_wp2_with fail
    go_ret2
    rw [HR.out]
    exact ⟨rfl, HB5.out⟩
end Go.Proofs.YtddbbgjpfdcjfaaDoor
