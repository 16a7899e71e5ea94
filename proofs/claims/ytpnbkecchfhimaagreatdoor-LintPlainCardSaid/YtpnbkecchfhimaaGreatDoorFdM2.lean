/- Texts of FdA, FdB, FdC, merged by a program of mine. -/
import Derived.Test.YtpnbkecchfhimaaGreatDoorFdM1
import Derived.Test.YtpnbkecchfhimaaGreatDoorTkR
import Derived.BigQuiet
import Derived.StillTailTactics
import Derived.BigRegion

/- out of FdA -/
namespace Go.Proofs.YtpnbkecchfhimaaGreatDoor
open Go.RowKit Go.Shelf
open Go.Lib (hid)
set_option linter.unusedVariables false
set_option linter.unusedSimpArgs false
set_option maxRecDepth 100000

theorem named_tok (k f t : Int) (nm : ByteArray) (r : Int) (sg : Bool) (w : World) (hn : nm.size ≤ 1000000) : Calls Tryz.prog 58 #[.agg #[.int .i64 k, .int .i64 f, .int .i64 t, .string nm, .int .i32 r, .bool sg]] w fun e w' => e = .returned (.int .i64 ((2 + nm.size : Nat) : Int)) ∧ Below w.heap.size w w' := by
  have q := Blk.new w 29 #[.int .i64 k, .int .i64 f, .int .i64 t, .string nm, .int .i32 r, .bool sg]
  have y3 := q.cell 3
  simp only [List.getElem?_toArray, List.getElem?_cons_zero, List.getElem?_cons_succ] at y3
  have HB := hid ((Below.refl w.heap.size w).alloc (Nat.le_refl _) (.cells #[.int .i64 k, .int .i64 f, .int .i64 t, .string nm, .int .i32 r, .bool sg] 29))
  have h2 : (2 : Int) + (nm.size : Int) = ((2 + nm.size : Nat) : Int) := by omega
  have h3 : ((2 + nm.size : Nat) : Int) ≤ 2000000 := by omega
  clear q hn
  generalize 2 + nm.size = m at *
  go_enter Tryz.func58, Tryz.ntmps58
  go_wp2_with fail
  go_ret
  exact ⟨rfl, HB.out⟩
theorem keeps_tok (t : Tk) (w : World) : Calls Tryz.prog 62 #[.agg (tkC t)] w fun e w' => e = .returned (.bool (keepB t)) ∧ Below w.heap.size w w' := by
  obtain ⟨k, f, tl, nm, r, sg⟩ := t
  have q := Blk.new w 29 #[.int .i64 k, .int .i64 f, .int .i64 tl, .string nm, .int .i32 r, .bool sg]
  have y0 := q.cell 0
  have y3 := q.cell 3
  have y5 := q.cell 5
  simp only [List.getElem?_toArray, List.getElem?_cons_zero, List.getElem?_cons_succ] at y0 y3 y5
  have HB := hid ((Below.refl w.heap.size w).alloc (Nat.le_refl _) (.cells #[.int .i64 k, .int .i64 f, .int .i64 tl, .string nm, .int .i32 r, .bool sg] 29))
  clear q
  unfold tkC
  simp only
  obtain ⟨v, hv⟩ : ∃ v, v = keepB ⟨k, f, tl, nm, r, sg⟩ := ⟨_, rfl⟩
  rw [← hv]
  unfold keepB rawsB at hv
  by_cases h2 : k = 2
  · subst h2
    cases sg with
    | true =>
      have hv2 : v = false := by rw [hv]; rfl
      clear hv
      subst hv2
      go_enter Tryz.func62, Tryz.ntmps62
      go_wp2_with fail
      go_ret
      exact ⟨rfl, HB.out⟩
    | false =>
      by_cases hs : nm = scriptB
      · have hv2 : v = true := by rw [hv, decide_eq_true hs]; rfl
        clear hv
        subst hv2
        subst hs
        unfold scriptB at *
        go_enter Tryz.func62, Tryz.ntmps62
        go_wp2_with fail
        go_ret
        exact ⟨rfl, HB.out⟩
      · by_cases hy : nm = styleB
        · have hv2 : v = true := by rw [hv, decide_eq_true hy]; simp
          clear hv
          subst hv2
          subst hy
          unfold styleB at *
          go_enter Tryz.func62, Tryz.ntmps62
          go_wp2_with fail
          go_ret
          exact ⟨rfl, HB.out⟩
        · have hv2 : v = false := by rw [hv, decide_eq_false hs, decide_eq_false hy]; simp
          clear hv
          subst hv2
          have hs1 : ¬ nm.toList = [115, 99, 114, 105, 112, 116] := fun e => hs (str_toList_inj.1 (by rw [e, Lib.toList_data]; rfl))
          have hs2 : (nm.toList == [115, 99, 114, 105, 112, 116]) = false := by simpa using hs1
          have hy1 : ¬ nm.toList = [115, 116, 121, 108, 101] := fun e => hy (str_toList_inj.1 (by rw [e, Lib.toList_data]; rfl))
          have hy2 : (nm.toList == [115, 116, 121, 108, 101]) = false := by simpa using hy1
          have hs3 : ¬ nm = ⟨#[115, 99, 114, 105, 112, 116]⟩ := hs
          have hy3 : ¬ nm = ⟨#[115, 116, 121, 108, 101]⟩ := hy
          clear hs hy
          go_enter Tryz.func62, Tryz.ntmps62
          go_wp2_with fail
          go_ret
          exact ⟨rfl, HB.out⟩
  · have hv2 : v = false := by rw [hv, decide_eq_false h2]; rfl
    clear hv
    subst hv2
    have h2b : (k == 2) = false := by simpa using h2
    go_enter Tryz.func62, Tryz.ntmps62
    go_wp2_with fail
    go_ret
    exact ⟨rfl, HB.out⟩
/-- What is left, behind the first ones. -/
def leftN (l : List Tk) (k : Nat) (n : Nat) : Int := if l.length ≤ k then 0 else (n : Int) - (((l.getD k ⟨0, 0, 0, noB, 0, false⟩).fr : Nat) : Int)
theorem left_tok (A : Option Addr) (n cap : Nat) (l : List Tk) (k : Nat) (sz : Nat) (w : World) (h : TR w A n l) (hz : ∀ (h : 0 < l.length), (l[l.length - 1]'(by omega)).til = sz) (hf : ∀ t ∈ l, t.fr ≤ 1000000 ∧ t.til ≤ 1000000) (hn : n ≤ 1000000) (hk : k ≤ 1000000) :
    Calls Tryz.prog 35 #[.slice A n cap, .int .i64 k] w fun e w' => e = .returned (.int .i64 (leftN l k sz)) ∧ Below w.heap.size w w' := by
  have hnl := h.1
  by_cases hkn : n ≤ k
  · have hkn' : (n : Int) ≤ (k : Int) := by omega
    have hR := hid (show leftN l k sz = 0 by unfold leftN; rw [if_pos (by omega)])
    clear h hz hf hnl
    rw [hR.out]
    go_enter Tryz.func35, Tryz.ntmps35
    go_wp2_with fail
    go_ret
    exact ⟨rfl, Below.refl _ _⟩
  · have hkl : k < l.length := by omega
    have hkn' : ¬ (n : Int) ≤ (k : Int) := by omega
    have hn1 : (n : Int) - 1 = ((n - 1 : Nat) : Int) := by omega
    have hlt1 : ((n - 1 : Nat) : Int) < (n : Int) := by omega
    have hlt2 : (k : Int) < (n : Int) := by omega
    have hl1 : n - 1 < l.length := by omega
    obtain ⟨g, rfl, hg, x0, x1, x2, x3, x4, x5⟩ := h.at_ hl1
    obtain ⟨g', e, _, y0, y1, y2, y3, y4, y5⟩ := h.at_ hkl
    cases e
    have hz1 : l[n - 1].til = sz := by
      have := hz (by omega)
      simpa [hnl] using this
    have hb1 : l[k].fr ≤ 1000000 := (hf _ (List.getElem_mem hkl)).1
    have hb2 : sz ≤ 1000000 := by rw [← hz1]; exact (hf _ (List.getElem_mem hl1)).2
    have hR := hid (show leftN l k sz = (sz : Int) - ((l[k].fr : Nat) : Int) by unfold leftN; rw [if_neg (by omega), List.getD_eq_getElem?_getD, List.getElem?_eq_getElem hkl]; rfl)
    rw [hz1] at x2
    rw [hR.out]
    generalize l[k].fr = a at *
    generalize hn2 : n - 1 = n1 at *
    have HN2 := hid hn2
    clear h hz hf hnl hz1 hn2 hl1 hkl x0 x1 x3 x4 x5 y0 y2 y3 y4 y5 hR
    have e2 : IntKind.i64.wrap ((sz : Int) - (a : Int)) = (sz : Int) - (a : Int) := IntWalk.i64_in _ (by omega)
    go_enter Tryz.func35, Tryz.ntmps35
    go_upto_region 3 with fail
    go_quiet (fail)
    go_wp2_with fail
    go_ret
    exact ⟨rfl, below_drewN _ w nq⟩
set_option maxHeartbeats 8000000 in
/-- Is token i settled, of those of some bytes? -/
theorem settled_tok (a : Option Addr) (len cap : Nat) (s : ByteArray) (A : Option Addr) (n cap2 i : Nat) (w : World) (hba : BA w a len cap s) (h : TR w A n (toks s)) (hmx : Mx w) (hm : len ≤ 1000000) (hi : i < n) :
    Calls Tryz.prog 34 #[.slice a len cap, .slice A n cap2, .int .i64 i] w fun e w' => e = .returned (.bool (setB s (toks s) i)) ∧ Below w.heap.size w w' := by
  have hnl := h.1
  have hil : i < (toks s).length := by omega
  have hn6 : n ≤ 1000000 := by have := toks_len s; have := hba.1; omega
  have hls := hba.1
  obtain ⟨m, hmm⟩ := hmx
  have HRT := hid (fun W (hW : Below w.heap.size w W) (j : Int) (hj : j ≤ 9223372036854775807) => read_any W a len cap j m s hls (fun h0 => (hba.below hW (Nat.le_refl _)).2.2.2 h0) hba.2.1 hba.2.2.1 (by omega) hj ((hW.cell (p := ⟨0, 0, none⟩) (World.block_lt_of_cell? _ _ hmm)).trans hmm))
  have HRE := hid (fun W (hW : Below w.heap.size w W) (j : Int) (hj : j ≤ 9223372036854775807) => read_any_a a len cap j s W (hba.below hW (Nat.le_refl _)) (by omega) hj)
  have HNM := hid (fun j (h : j < (toks s).length) => name_size (List.getElem_mem h))
  have HMM := hid (fun j (h : j < (toks s).length) => toks_mem (List.getElem_mem h))
  have hlenB : s.size ≤ 1000000 := by omega
  have HLB := hid hlenB
  have HSET : ∀ v, setB s (toks s) i = v → Hid (setB s (toks s) i = v) := fun v h => h
  obtain ⟨v, hv⟩ : ∃ v, v = setB s (toks s) i := ⟨_, rfl⟩
  rw [← hv]
  unfold setB at hv
  rw [List.getElem?_eq_getElem hil] at hv
  simp only at hv
  obtain ⟨g, rfl, hg, x0, x1, x2, x3, x4, x5⟩ := h.at_ hil
  have hnx : (i + 1 < n → ∃ u : Tk, (toks s)[i + 1]? = some u ∧ u.name.size ≤ s.size ∧ u.fr < u.til ∧ u.til ≤ s.size ∧ ∀ W, Below w.heap.size w W → W.cell? ⟨g, (i + 1) * 6, none⟩ = some (.int .i64 u.kind) ∧ W.cell? ⟨g, (i + 1) * 6 + 1, none⟩ = some (.int .i64 u.fr) ∧ W.cell? ⟨g, (i + 1) * 6 + 2, none⟩ = some (.int .i64 u.til) ∧ W.cell? ⟨g, (i + 1) * 6 + 3, none⟩ = some (.string u.name) ∧ W.cell? ⟨g, (i + 1) * 6 + 4, none⟩ = some (.int .i32 u.r) ∧ W.cell? ⟨g, (i + 1) * 6 + 5, none⟩ = some (.bool u.single)) := fun hin => by
    have hil2 : i + 1 < (toks s).length := by omega
    refine ⟨(toks s)[i + 1], List.getElem?_eq_getElem hil2, HNM.out _ hil2, (HMM.out _ hil2).1, (HMM.out _ hil2).2.1, fun W hW => ?_⟩
    obtain ⟨g', e, _, y⟩ := (h.below hW (Nat.le_refl _)).at_ hil2
    cases e
    exact y
  have HNX := hid hnx
  have hno : ¬ i + 1 < n → (toks s)[i + 1]? = none := fun hin => List.getElem?_eq_none (by omega)
  have HNO := hid hno
  have hfb := (HMM.out i hil)
  have hnb := (HNM.out i hil)
  rw [← hnl] at hv
  generalize hol : (toks s)[i + 1]? = ol at hv HNX HNO
  generalize (toks s)[i] = t at *
  obtain ⟨k, f, tl, nm, r, sg⟩ := t
  simp only at x0 x1 x2 x3 x4 x5 hv hfb hnb
  have HV := hid hv
  have hB1 := (Below.refl w.heap.size w).alloc (Nat.le_refl _) (.cells #[.int .i64 k, .int .i64 f, .int .i64 tl, .string nm, .int .i32 r, .bool sg] 29)
  have q1 := Blk.new w 29 #[.int .i64 k, .int .i64 f, .int .i64 tl, .string nm, .int .i32 r, .bool sg]
  have z0 := q1.cell 0
  have z1 := q1.cell 1
  simp only [List.getElem?_toArray, List.getElem?_cons_zero, List.getElem?_cons_succ] at z0 z1
  have hlt' : (i : Int) < (n : Int) := by omega
  have hi1 : (i : Int) + 1 = ((i + 1 : Nat) : Int) := by omega
  have hi1b : ((i + 1 : Nat) : Int) ≤ 2000000 := by omega
  have hwr : IntKind.i64.wrap ((i + 1 : Nat) : Int) = ((i + 1 : Nat) : Int) := IntWalk.i64_in _ (by omega)
  have HB1 := hid hB1
  have HF := hid (show (f : Int) ≤ 9223372036854775807 by omega)
  have HKB := hid hfb
  clear hba hmm hB1 q1 hv hnx hno hil hnl h HNM HMM hls hol hfb HSET hlenB
  by_cases h0 : k = 0
  · subst h0
    have hv := HV.out
    rw [if_pos rfl] at hv
    by_cases hin : i + 1 < n
    · have hin' : ((i + 1 : Nat) : Int) < (n : Int) := by omega
      rw [decide_eq_true hin] at hv
      subst hv
      clear HV HRT HRE HNX HNO hi hin
      generalize i + 1 = i2 at *
      go_enter Tryz.func34, Tryz.ntmps34
      go_wp2_with fail
      go_ret
      exact ⟨rfl, HB1.out⟩
    · have hin' : ¬ ((i + 1 : Nat) : Int) < (n : Int) := by omega
      rw [decide_eq_false hin] at hv
      subst hv
      clear HV HRT HRE HNX HNO hi hin
      generalize i + 1 = i2 at *
      go_enter Tryz.func34, Tryz.ntmps34
      go_wp2_with fail
      go_ret
      exact ⟨rfl, HB1.out⟩
  have h0b : (k == 0) = false := by simpa using h0
  by_cases h7 : k = 7
  · subst h7
    have hv := HV.out
    rw [if_neg (by decide), if_neg (by decide), if_neg (by decide), if_pos rfl] at hv
    by_cases hin : i + 1 < n
    · have hin' : ((i + 1 : Nat) : Int) < (n : Int) := by omega
      obtain ⟨u, hu, hun, huf, hut, huc⟩ := HNX.out hin
      rw [hu] at hv
      simp only at hv
      obtain ⟨y0, y1, y2, y3, y4, y5⟩ := huc _ HB1.out
      obtain ⟨uk, uf, ut, un, ur, us⟩ := u
      simp only at *
      have HNT := hid (fun W => named_tok uk uf ut un ur us W (by have := HLB.out; omega))
      have hsub : (ut : Int) - (uf : Int) = ((ut - uf : Nat) : Int) := by omega
      have hsubb : ((ut - uf : Nat) : Int) ≤ 1000000 := by have := HLB.out; omega
      have hvv : v = decide (2 + un.size < ut - uf) := hv
      have HVV := hid hvv
      have hgw : g < (w.alloc (.cells #[.int .i64 7, .int .i64 f, .int .i64 tl, .string nm, .int .i32 r, .bool sg] 29)).heap.size := Nat.lt_of_lt_of_le hg HB1.out.size
      have hd1 : decide (i + 1 < n) = true := decide_eq_true hin
      clear HV HRT HRE HNX HNO hi hin hv hvv huc hu hun huf hut
      generalize hi2 : i + 1 = i2 at *
      generalize 2 + un.size = m2 at *
      have hwd : IntKind.i64.wrap ((ut - uf : Nat) : Int) = ((ut - uf : Nat) : Int) := IntWalk.i64_in _ (by omega)
      generalize ut - uf = d at *
      clear hi2
      go_enter Tryz.func34, Tryz.ntmps34
      go_upto_region 6 with fail
      have hs1 := HB1.out.size
      generalize w.alloc (.cells #[.int .i64 7, .int .i64 f, .int .i64 tl, .string nm, .int .i32 r, .bool sg] 29) = w1 at *
      refine wp_region_held_drew (S := fun w' : World => w'.cell? ⟨g, i2 * 6, none⟩ = some (.int .i64 uk) ∧ w'.cell? ⟨g, i2 * 6 + 1, none⟩ = some (.int .i64 uf) ∧ w'.cell? ⟨g, i2 * 6 + 2, none⟩ = some (.int .i64 ut) ∧ w'.cell? ⟨g, i2 * 6 + 3, none⟩ = some (.string un) ∧ w'.cell? ⟨g, i2 * 6 + 4, none⟩ = some (.int .i32 ur) ∧ w'.cell? ⟨g, i2 * 6 + 5, none⟩ = some (.bool us) ∧ g < w'.heap.size) (by kernel_rfl) ⟨y0, y1, y2, y3, y4, y5, hgw⟩ (fun hHeld => ?_)
      refine wpAnyH_take (i := 0) (v := ?hv1) rfl (by kernel_rfl) (by kernel_rfl) (by kernel_rfl) (fun _ _ _ h => h) (Or.inl ⟨by rfl, ?hy1⟩) (by assumption) ?hr1
      case hy1 => (intro w hSw; (try dsimp only at hSw); go_simp; try with_reducible rfl)
      (try simp only [Act.put, List.getElem_toArray, List.getElem_cons_zero, List.setIfInBounds_toArray, List.set_cons_zero, List.set_cons_succ])
      refine wpAnyH_take (i := 1) (v := ?hv2) rfl (by kernel_rfl) (by kernel_rfl) (by kernel_rfl) (fun _ _ _ h => h) (Or.inl ⟨by rfl, ?hy2⟩) (by assumption) ?hr2
      case hy2 => (intro w hSw; (try dsimp only at hSw); go_simp; try with_reducible rfl)
      (try simp only [Act.put, List.getElem_toArray, List.getElem_cons_zero, List.getElem_cons_succ, List.setIfInBounds_toArray, List.set_cons_zero, List.set_cons_succ])
      refine wpAnyH_take (i := 2) (v := ?hv3) rfl (by kernel_rfl) (by kernel_rfl) (by kernel_rfl) (fun _ _ _ h => h) (Or.inl ⟨by rfl, ?hy3⟩) (by assumption) ?hr3
      case hy3 => (intro w hSw; (try dsimp only at hSw); go_simp; try with_reducible rfl)
      (try simp only [Act.put, List.getElem_toArray, List.getElem_cons_zero, List.getElem_cons_succ, List.setIfInBounds_toArray, List.set_cons_zero, List.set_cons_succ])
      refine wpAnyH_take (i := 3) (v := ?hv4) rfl (by kernel_rfl) (by kernel_rfl) (by kernel_rfl) (fun _ _ _ h => h) (Or.inl ⟨by rfl, ?hy4⟩) (by assumption) ?hr4
      case hy4 => (intro w hSw; (try dsimp only at hSw); go_simp; try with_reducible rfl)
      (try simp only [Act.put, List.getElem_toArray, List.getElem_cons_zero, List.getElem_cons_succ, List.setIfInBounds_toArray, List.set_cons_zero, List.set_cons_succ])
      refine wpAnyH_take (i := 4) (v := ?hv5) rfl (by kernel_rfl) (by kernel_rfl) (by kernel_rfl) (fun _ _ _ h => h) (Or.inl ⟨by rfl, ?hy5⟩) (by assumption) ?hr5
      case hy5 => (intro w hSw; (try dsimp only at hSw); go_simp; try with_reducible rfl)
      (try simp only [Act.put, List.getElem_toArray, List.getElem_cons_zero, List.getElem_cons_succ, List.setIfInBounds_toArray, List.set_cons_zero, List.set_cons_succ])
      refine wpAnyH_take (i := 5) (v := ?hv6) rfl (by kernel_rfl) (by kernel_rfl) (by kernel_rfl) (fun _ _ _ h => h) (Or.inl ⟨by rfl, ?hy6⟩) (by assumption) ?hr6
      case hy6 => (intro w hSw; (try dsimp only at hSw); go_simp; try with_reducible rfl)
      (try simp only [Act.put, List.getElem_toArray, List.getElem_cons_zero, List.getElem_cons_succ, List.setIfInBounds_toArray, List.set_cons_zero, List.set_cons_succ])
      refine wpAnyH_take (i := 6) (v := ?hv7) rfl (by kernel_rfl) (by kernel_rfl) (by kernel_rfl) (fun _ _ _ h => h) (Or.inl ⟨by rfl, ?hy7⟩) (by assumption) ?hr7
      case hy7 => (intro w hSw; (try dsimp only at hSw); go_simp; try with_reducible rfl)
      (try simp only [Act.put, List.getElem_toArray, List.getElem_cons_zero, List.getElem_cons_succ, List.setIfInBounds_toArray, List.set_cons_zero, List.set_cons_succ])
      refine wpAnyH_take (i := 7) (v := ?hv8) rfl (by kernel_rfl) (by kernel_rfl) (by kernel_rfl) (fun _ _ _ h => h) (Or.inl ⟨by rfl, ?hy8⟩) (by assumption) ?hr8
      case hy8 => (intro w hSw; (try dsimp only at hSw); go_simp; try with_reducible rfl)
      (try simp only [Act.put, List.getElem_toArray, List.getElem_cons_zero, List.getElem_cons_succ, List.setIfInBounds_toArray, List.set_cons_zero, List.set_cons_succ])
      refine wpAnyH_take (i := 8) (v := ?hv9) rfl (by kernel_rfl) (by kernel_rfl) (by kernel_rfl) (fun _ _ _ h => h) (Or.inl ⟨by rfl, ?hy9⟩) (by assumption) ?hr9
      case hy9 => (intro w hSw; (try dsimp only at hSw); go_simp; try with_reducible rfl)
      (try simp only [Act.put, List.getElem_toArray, List.getElem_cons_zero, List.getElem_cons_succ, List.setIfInBounds_toArray, List.set_cons_zero, List.set_cons_succ])
      refine wpAnyH_take (i := 9) (v := ?hv10) rfl (by kernel_rfl) (by kernel_rfl) (by kernel_rfl) (fun _ _ _ h => h) (Or.inl ⟨by rfl, ?hy10⟩) (by assumption) ?hr10
      case hy10 => (intro w hSw; (try dsimp only at hSw); go_simp; try with_reducible rfl)
      (try simp only [Act.put, List.getElem_toArray, List.getElem_cons_zero, List.getElem_cons_succ, List.setIfInBounds_toArray, List.set_cons_zero, List.set_cons_succ])
      refine wpAnyH_take (i := 10) (v := ?hv11) rfl (by kernel_rfl) (by kernel_rfl) (by kernel_rfl) (fun _ _ _ h => h) (Or.inl ⟨by rfl, ?hy11⟩) (by assumption) ?hr11
      case hy11 => (intro w hSw; (try dsimp only at hSw); go_simp; try with_reducible rfl)
      (try simp only [Act.put, List.getElem_toArray, List.getElem_cons_zero, List.getElem_cons_succ, List.setIfInBounds_toArray, List.set_cons_zero, List.set_cons_succ])
      refine wpAnyH_take (i := 11) (v := ?hv12) rfl (by kernel_rfl) (by kernel_rfl) (by kernel_rfl) (fun _ _ _ h => h) (Or.inl ⟨by rfl, ?hy12⟩) (by assumption) ?hr12
      case hy12 => (intro w hSw; (try dsimp only at hSw); go_simp; try with_reducible rfl)
      (try simp only [Act.put, List.getElem_toArray, List.getElem_cons_zero, List.getElem_cons_succ, List.setIfInBounds_toArray, List.set_cons_zero, List.set_cons_succ])
      refine wpAnyH_take (i := 12) (v := ?hv13) rfl (by kernel_rfl) (by kernel_rfl) (by kernel_rfl) (fun _ _ _ h => h) (Or.inl ⟨by rfl, ?hy13⟩) (by assumption) ?hr13
      case hy13 => (intro w hSw; (try dsimp only at hSw); go_simp; try with_reducible rfl)
      (try simp only [Act.put, List.getElem_toArray, List.getElem_cons_zero, List.getElem_cons_succ, List.setIfInBounds_toArray, List.set_cons_zero, List.set_cons_succ])
      refine wpAnyH_take (i := 13) (v := ?hv14) rfl (by kernel_rfl) (by kernel_rfl) (by kernel_rfl) (fun _ _ _ h => h) (Or.inl ⟨by rfl, ?hy14⟩) (by assumption) ?hr14
      case hy14 => (intro w hSw; (try dsimp only at hSw); go_simp; try with_reducible rfl)
      (try simp only [Act.put, List.getElem_toArray, List.getElem_cons_zero, List.getElem_cons_succ, List.setIfInBounds_toArray, List.set_cons_zero, List.set_cons_succ])
      refine wpAnyH_take (i := 14) (v := ?hv15) rfl (by kernel_rfl) (by kernel_rfl) (by kernel_rfl) (fun _ _ _ h => h) (Or.inl ⟨by rfl, ?hy15⟩) (by assumption) ?hr15
      case hy15 => (intro w hSw; (try dsimp only at hSw); go_simp; try with_reducible rfl)
      (try simp only [Act.put, List.getElem_toArray, List.getElem_cons_zero, List.getElem_cons_succ, List.setIfInBounds_toArray, List.set_cons_zero, List.set_cons_succ])
      refine wpAnyH_take (i := 15) (v := ?hv16) rfl (by kernel_rfl) (by kernel_rfl) (by kernel_rfl) (fun _ _ _ h => h) (Or.inl ⟨by rfl, ?hy16⟩) (by assumption) ?hr16
      case hy16 => (intro w hSw; (try dsimp only at hSw); go_simp; try with_reducible rfl)
      (try simp only [Act.put, List.getElem_toArray, List.getElem_cons_zero, List.getElem_cons_succ, List.setIfInBounds_toArray, List.set_cons_zero, List.set_cons_succ])
      refine wpAnyH_take (i := 16) (v := ?hv17) rfl (by kernel_rfl) (by kernel_rfl) (by kernel_rfl) (fun _ _ _ h => h) (Or.inl ⟨by rfl, ?hy17⟩) (by assumption) ?hr17
      case hy17 => (intro w hSw; (try dsimp only at hSw); go_simp; try with_reducible rfl)
      (try simp only [Act.put, List.getElem_toArray, List.getElem_cons_zero, List.getElem_cons_succ, List.setIfInBounds_toArray, List.set_cons_zero, List.set_cons_succ])
      refine wpAnyH_take (i := 17) (v := ?hv18) rfl (by kernel_rfl) (by kernel_rfl) (by kernel_rfl) (fun _ _ _ h => h) (Or.inl ⟨by rfl, ?hy18⟩) (by assumption) ?hr18
      case hy18 => (intro w hSw; (try dsimp only at hSw); go_simp; try with_reducible rfl)
      (try simp only [Act.put, List.getElem_toArray, List.getElem_cons_zero, List.getElem_cons_succ, List.setIfInBounds_toArray, List.set_cons_zero, List.set_cons_succ])
      refine wpAnyH_take (i := 18) (v := ?hv19) rfl (by kernel_rfl) (by kernel_rfl) (by kernel_rfl) (fun _ _ _ h => h) (Or.inl ⟨by rfl, ?hy19⟩) (by assumption) ?hr19
      case hy19 => (intro w hSw; (try dsimp only at hSw); go_simp; try with_reducible rfl)
      (try simp only [Act.put, List.getElem_toArray, List.getElem_cons_zero, List.getElem_cons_succ, List.setIfInBounds_toArray, List.set_cons_zero, List.set_cons_succ])
      refine wpAnyH_take (i := 19) (v := ?hv20) rfl (by kernel_rfl) (by kernel_rfl) (by kernel_rfl) (fun _ _ _ h => h) (Or.inl ⟨by rfl, ?hy20⟩) (by assumption) ?hr20
      case hy20 => (intro w hSw; (try dsimp only at hSw); go_simp; try with_reducible rfl)
      (try simp only [Act.put, List.getElem_toArray, List.getElem_cons_zero, List.getElem_cons_succ, List.setIfInBounds_toArray, List.set_cons_zero, List.set_cons_succ])
      refine wpAnyH_take (i := 20) (v := ?hv21) rfl (by kernel_rfl) (by kernel_rfl) (by kernel_rfl) (fun _ _ _ h => h) (Or.inl ⟨by rfl, ?hy21⟩) (by assumption) ?hr21
      case hy21 => (intro w hSw; (try dsimp only at hSw); go_simp; try with_reducible rfl)
      (try simp only [Act.put, List.getElem_toArray, List.getElem_cons_zero, List.getElem_cons_succ, List.setIfInBounds_toArray, List.set_cons_zero, List.set_cons_succ])
      refine wpAnyH_take (i := 21) (v := ?hv22) rfl (by kernel_rfl) (by kernel_rfl) (by kernel_rfl) (fun _ _ _ h => h) (Or.inl ⟨by rfl, ?hy22⟩) (by assumption) ?hr22
      case hy22 => (intro w hSw; (try dsimp only at hSw); go_simp; try with_reducible rfl)
      (try simp only [Act.put, List.getElem_toArray, List.getElem_cons_zero, List.getElem_cons_succ, List.setIfInBounds_toArray, List.set_cons_zero, List.set_cons_succ])
      refine wpAnyH_take (i := 22) (v := ?hv23) rfl (by kernel_rfl) (by kernel_rfl) (by kernel_rfl) (fun _ _ _ h => h) (Or.inl ⟨by rfl, ?hy23⟩) (by assumption) ?hr23
      case hy23 => (intro w hSw; (try dsimp only at hSw); go_simp; try with_reducible rfl)
      (try simp only [Act.put, List.getElem_toArray, List.getElem_cons_zero, List.getElem_cons_succ, List.setIfInBounds_toArray, List.set_cons_zero, List.set_cons_succ])
      refine wpAnyH_take (i := 23) (v := ?hv24) rfl (by kernel_rfl) (by kernel_rfl) (by kernel_rfl) (fun _ _ _ h => h) (Or.inl ⟨by rfl, ?hy24⟩) (by assumption) ?hr24
      case hy24 => (intro w hSw; (try dsimp only at hSw); go_simp; try with_reducible rfl)
      (try simp only [Act.put, List.getElem_toArray, List.getElem_cons_zero, List.getElem_cons_succ, List.setIfInBounds_toArray, List.set_cons_zero, List.set_cons_succ])
      refine wpAnyH_ready (rs := [24]) (by kernel_rfl) (by simp) ?_
      refine AllReadyH.cons rfl (fun K hK => ?_) AllReadyH.nil
      go_simp
      go_at_call 58
      refine (HNT.out _).mono ?_
      rintro e w5 ⟨rfl, hb5⟩
      have HB5 := hid (HB1.out.trans ((show Below w1.heap.size w1 w5 from (Below.refl w1.heap.size w1).drew.trans hb5).mono hs1))
      have HS5 := hid (show w5.cell? ⟨g, i2 * 6, none⟩ = some (.int .i64 uk) ∧ w5.cell? ⟨g, i2 * 6 + 1, none⟩ = some (.int .i64 uf) ∧ w5.cell? ⟨g, i2 * 6 + 2, none⟩ = some (.int .i64 ut) ∧ w5.cell? ⟨g, i2 * 6 + 3, none⟩ = some (.string un) ∧ w5.cell? ⟨g, i2 * 6 + 4, none⟩ = some (.int .i32 ur) ∧ w5.cell? ⟨g, i2 * 6 + 5, none⟩ = some (.bool us) ∧ g < w5.heap.size from
        ⟨(hb5.cell (p := ⟨g, i2 * 6, none⟩) hgw).trans y0, (hb5.cell (p := ⟨g, i2 * 6 + 1, none⟩) hgw).trans y1, (hb5.cell (p := ⟨g, i2 * 6 + 2, none⟩) hgw).trans y2, (hb5.cell (p := ⟨g, i2 * 6 + 3, none⟩) hgw).trans y3, (hb5.cell (p := ⟨g, i2 * 6 + 4, none⟩) hgw).trans y4, (hb5.cell (p := ⟨g, i2 * 6 + 5, none⟩) hgw).trans y5, Nat.lt_of_lt_of_le hgw hb5.size⟩)
      clear hb5 y0 y1 y2 y3 y4 y5 x0 x1 x2 x3 x4 x5 z0 z1
      go_wp2_with fail
      refine hK.out _ _ HS5.out (fun hHeld2 => ?_)
      clear hK K hHeld
      refine wpAnyH_take (i := 25) (v := ?hv25) rfl (by kernel_rfl) (by kernel_rfl) (by kernel_rfl) (fun _ _ _ h => h) (Or.inl ⟨by rfl, ?hy25⟩) (by assumption) ?hr25
      case hy25 => (intro w hSw; (try dsimp only at hSw); go_simp; try with_reducible rfl)
      (try simp only [Act.put, List.getElem_toArray, List.getElem_cons_zero, List.getElem_cons_succ, List.setIfInBounds_toArray, List.set_cons_zero, List.set_cons_succ])
      refine wpAnyH_take (i := 26) (v := ?hv26) rfl (by kernel_rfl) (by kernel_rfl) (by kernel_rfl) (fun _ _ _ h => h) (Or.inl ⟨by rfl, ?hy26⟩) (by assumption) ?hr26
      case hy26 => (intro w hSw; (try dsimp only at hSw); go_simp; try with_reducible rfl)
      (try simp only [Act.put, List.getElem_toArray, List.getElem_cons_zero, List.getElem_cons_succ, List.setIfInBounds_toArray, List.set_cons_zero, List.set_cons_succ])
      refine wpAnyH_take (i := 27) (v := ?hv27) rfl (by kernel_rfl) (by kernel_rfl) (by kernel_rfl) (fun _ _ _ h => h) (Or.inl ⟨by rfl, ?hy27⟩) (by assumption) ?hr27
      case hy27 => (intro w hSw; (try dsimp only at hSw); go_simp; try with_reducible rfl)
      (try simp only [Act.put, List.getElem_toArray, List.getElem_cons_zero, List.getElem_cons_succ, List.setIfInBounds_toArray, List.set_cons_zero, List.set_cons_succ])
      refine wpAnyH_done (by kernel_rfl) ?_ _
      clear hHeld2
      go_wp2_with fail
      go_ret
      exact ⟨by rw [HVV.out]; rfl, HB5.out⟩
    · have hin' : ¬ ((i + 1 : Nat) : Int) < (n : Int) := by omega
      rw [HNO.out hin] at hv
      simp only at hv
      subst hv
      have hd1 : decide (i + 1 < n) = false := decide_eq_false hin
      clear HV HRT HRE HNX HNO hi hin
      generalize i + 1 = i2 at *
      go_enter Tryz.func34, Tryz.ntmps34
      go_upto_region 6 with fail
      generalize w.alloc (.cells #[.int .i64 7, .int .i64 f, .int .i64 tl, .string nm, .int .i32 r, .bool sg] 29) = w1 at *
      refine wp_region_held_drew (S := fun w' : World => True) (by kernel_rfl) trivial (fun hHeld => ?_)
      refine wpAnyH_take (i := 0) (v := ?hv28) rfl (by kernel_rfl) (by kernel_rfl) (by kernel_rfl) (fun _ _ _ h => h) (Or.inl ⟨by rfl, ?hy28⟩) (by assumption) ?hr28
      case hy28 => (intro w hSw; (try dsimp only at hSw); go_simp; try with_reducible rfl)
      (try simp only [Act.put, List.getElem_toArray, List.getElem_cons_zero, List.setIfInBounds_toArray, List.set_cons_zero, List.set_cons_succ])
      refine wpAnyH_take (i := 1) (v := ?hv29) rfl (by kernel_rfl) (by kernel_rfl) (by kernel_rfl) (fun _ _ _ h => h) (Or.inl ⟨by rfl, ?hy29⟩) (by assumption) ?hr29
      case hy29 => (intro w hSw; (try dsimp only at hSw); go_simp; try with_reducible rfl)
      (try simp only [Act.put, List.getElem_toArray, List.getElem_cons_zero, List.getElem_cons_succ, List.setIfInBounds_toArray, List.set_cons_zero, List.set_cons_succ])
      refine wpAnyH_take (i := 2) (v := ?hv30) rfl (by kernel_rfl) (by kernel_rfl) (by kernel_rfl) (fun _ _ _ h => h) (Or.inl ⟨by rfl, ?hy30⟩) (by assumption) ?hr30
      case hy30 => (intro w hSw; (try dsimp only at hSw); go_simp; try with_reducible rfl)
      (try simp only [Act.put, List.getElem_toArray, List.getElem_cons_zero, List.getElem_cons_succ, List.setIfInBounds_toArray, List.set_cons_zero, List.set_cons_succ])
      refine wpAnyH_take (i := 3) (v := ?hv31) rfl (by kernel_rfl) (by kernel_rfl) (by kernel_rfl) (fun _ _ _ h => h) (Or.inl ⟨by rfl, ?hy31⟩) (by assumption) ?hr31
      case hy31 => (intro w hSw; (try dsimp only at hSw); go_simp; try with_reducible rfl)
      (try simp only [Act.put, List.getElem_toArray, List.getElem_cons_zero, List.getElem_cons_succ, List.setIfInBounds_toArray, List.set_cons_zero, List.set_cons_succ])
      refine wpAnyH_take (i := 4) (v := ?hv32) rfl (by kernel_rfl) (by kernel_rfl) (by kernel_rfl) (fun _ _ _ h => h) (Or.inl ⟨by rfl, ?hy32⟩) (by assumption) ?hr32
      case hy32 => (intro w hSw; (try dsimp only at hSw); go_simp; try with_reducible rfl)
      (try simp only [Act.put, List.getElem_toArray, List.getElem_cons_zero, List.getElem_cons_succ, List.setIfInBounds_toArray, List.set_cons_zero, List.set_cons_succ])
      refine wpAnyH_take (i := 5) (v := ?hv33) rfl (by kernel_rfl) (by kernel_rfl) (by kernel_rfl) (fun _ _ _ h => h) (Or.inl ⟨by rfl, ?hy33⟩) (by assumption) ?hr33
      case hy33 => (intro w hSw; (try dsimp only at hSw); go_simp; try with_reducible rfl)
      (try simp only [Act.put, List.getElem_toArray, List.getElem_cons_zero, List.getElem_cons_succ, List.setIfInBounds_toArray, List.set_cons_zero, List.set_cons_succ])
      refine wpAnyH_take (i := 6) (v := undef) rfl (by kernel_rfl) (by kernel_rfl) (by kernel_rfl) (fun _ _ _ h => h) (Or.inr ⟨by rfl, rfl⟩) (by assumption) ?_
      (try simp only [Act.put, List.getElem_toArray, List.getElem_cons_zero, List.getElem_cons_succ, List.setIfInBounds_toArray, List.set_cons_zero, List.set_cons_succ])
      refine wpAnyH_take (i := 7) (v := undef) rfl (by kernel_rfl) (by kernel_rfl) (by kernel_rfl) (fun _ _ _ h => h) (Or.inr ⟨by rfl, rfl⟩) (by assumption) ?_
      (try simp only [Act.put, List.getElem_toArray, List.getElem_cons_zero, List.getElem_cons_succ, List.setIfInBounds_toArray, List.set_cons_zero, List.set_cons_succ])
      refine wpAnyH_take (i := 8) (v := undef) rfl (by kernel_rfl) (by kernel_rfl) (by kernel_rfl) (fun _ _ _ h => h) (Or.inr ⟨by rfl, rfl⟩) (by assumption) ?_
      (try simp only [Act.put, List.getElem_toArray, List.getElem_cons_zero, List.getElem_cons_succ, List.setIfInBounds_toArray, List.set_cons_zero, List.set_cons_succ])
      refine wpAnyH_take (i := 9) (v := undef) rfl (by kernel_rfl) (by kernel_rfl) (by kernel_rfl) (fun _ _ _ h => h) (Or.inr ⟨by rfl, rfl⟩) (by assumption) ?_
      (try simp only [Act.put, List.getElem_toArray, List.getElem_cons_zero, List.getElem_cons_succ, List.setIfInBounds_toArray, List.set_cons_zero, List.set_cons_succ])
      refine wpAnyH_take (i := 10) (v := undef) rfl (by kernel_rfl) (by kernel_rfl) (by kernel_rfl) (fun _ _ _ h => h) (Or.inr ⟨by rfl, rfl⟩) (by assumption) ?_
      (try simp only [Act.put, List.getElem_toArray, List.getElem_cons_zero, List.getElem_cons_succ, List.setIfInBounds_toArray, List.set_cons_zero, List.set_cons_succ])
      refine wpAnyH_take (i := 11) (v := undef) rfl (by kernel_rfl) (by kernel_rfl) (by kernel_rfl) (fun _ _ _ h => h) (Or.inr ⟨by rfl, rfl⟩) (by assumption) ?_
      (try simp only [Act.put, List.getElem_toArray, List.getElem_cons_zero, List.getElem_cons_succ, List.setIfInBounds_toArray, List.set_cons_zero, List.set_cons_succ])
      refine wpAnyH_take (i := 12) (v := undef) rfl (by kernel_rfl) (by kernel_rfl) (by kernel_rfl) (fun _ _ _ h => h) (Or.inr ⟨by rfl, rfl⟩) (by assumption) ?_
      (try simp only [Act.put, List.getElem_toArray, List.getElem_cons_zero, List.getElem_cons_succ, List.setIfInBounds_toArray, List.set_cons_zero, List.set_cons_succ])
      refine wpAnyH_take (i := 13) (v := undef) rfl (by kernel_rfl) (by kernel_rfl) (by kernel_rfl) (fun _ _ _ h => h) (Or.inr ⟨by rfl, rfl⟩) (by assumption) ?_
      (try simp only [Act.put, List.getElem_toArray, List.getElem_cons_zero, List.getElem_cons_succ, List.setIfInBounds_toArray, List.set_cons_zero, List.set_cons_succ])
      refine wpAnyH_take (i := 14) (v := undef) rfl (by kernel_rfl) (by kernel_rfl) (by kernel_rfl) (fun _ _ _ h => h) (Or.inr ⟨by rfl, rfl⟩) (by assumption) ?_
      (try simp only [Act.put, List.getElem_toArray, List.getElem_cons_zero, List.getElem_cons_succ, List.setIfInBounds_toArray, List.set_cons_zero, List.set_cons_succ])
      refine wpAnyH_take (i := 15) (v := undef) rfl (by kernel_rfl) (by kernel_rfl) (by kernel_rfl) (fun _ _ _ h => h) (Or.inr ⟨by rfl, rfl⟩) (by assumption) ?_
      (try simp only [Act.put, List.getElem_toArray, List.getElem_cons_zero, List.getElem_cons_succ, List.setIfInBounds_toArray, List.set_cons_zero, List.set_cons_succ])
      refine wpAnyH_take (i := 16) (v := undef) rfl (by kernel_rfl) (by kernel_rfl) (by kernel_rfl) (fun _ _ _ h => h) (Or.inr ⟨by rfl, rfl⟩) (by assumption) ?_
      (try simp only [Act.put, List.getElem_toArray, List.getElem_cons_zero, List.getElem_cons_succ, List.setIfInBounds_toArray, List.set_cons_zero, List.set_cons_succ])
      refine wpAnyH_take (i := 17) (v := undef) rfl (by kernel_rfl) (by kernel_rfl) (by kernel_rfl) (fun _ _ _ h => h) (Or.inr ⟨by rfl, rfl⟩) (by assumption) ?_
      (try simp only [Act.put, List.getElem_toArray, List.getElem_cons_zero, List.getElem_cons_succ, List.setIfInBounds_toArray, List.set_cons_zero, List.set_cons_succ])
      refine wpAnyH_take (i := 18) (v := undef) rfl (by kernel_rfl) (by kernel_rfl) (by kernel_rfl) (fun _ _ _ h => h) (Or.inr ⟨by rfl, rfl⟩) (by assumption) ?_
      (try simp only [Act.put, List.getElem_toArray, List.getElem_cons_zero, List.getElem_cons_succ, List.setIfInBounds_toArray, List.set_cons_zero, List.set_cons_succ])
      refine wpAnyH_take (i := 19) (v := undef) rfl (by kernel_rfl) (by kernel_rfl) (by kernel_rfl) (fun _ _ _ h => h) (Or.inr ⟨by rfl, rfl⟩) (by assumption) ?_
      (try simp only [Act.put, List.getElem_toArray, List.getElem_cons_zero, List.getElem_cons_succ, List.setIfInBounds_toArray, List.set_cons_zero, List.set_cons_succ])
      refine wpAnyH_take (i := 20) (v := undef) rfl (by kernel_rfl) (by kernel_rfl) (by kernel_rfl) (fun _ _ _ h => h) (Or.inr ⟨by rfl, rfl⟩) (by assumption) ?_
      (try simp only [Act.put, List.getElem_toArray, List.getElem_cons_zero, List.getElem_cons_succ, List.setIfInBounds_toArray, List.set_cons_zero, List.set_cons_succ])
      refine wpAnyH_take (i := 21) (v := undef) rfl (by kernel_rfl) (by kernel_rfl) (by kernel_rfl) (fun _ _ _ h => h) (Or.inr ⟨by rfl, rfl⟩) (by assumption) ?_
      (try simp only [Act.put, List.getElem_toArray, List.getElem_cons_zero, List.getElem_cons_succ, List.setIfInBounds_toArray, List.set_cons_zero, List.set_cons_succ])
      refine wpAnyH_take (i := 22) (v := undef) rfl (by kernel_rfl) (by kernel_rfl) (by kernel_rfl) (fun _ _ _ h => h) (Or.inr ⟨by rfl, rfl⟩) (by assumption) ?_
      (try simp only [Act.put, List.getElem_toArray, List.getElem_cons_zero, List.getElem_cons_succ, List.setIfInBounds_toArray, List.set_cons_zero, List.set_cons_succ])
      refine wpAnyH_take (i := 23) (v := undef) rfl (by kernel_rfl) (by kernel_rfl) (by kernel_rfl) (fun _ _ _ h => h) (Or.inr ⟨by rfl, rfl⟩) (by assumption) ?_
      (try simp only [Act.put, List.getElem_toArray, List.getElem_cons_zero, List.getElem_cons_succ, List.setIfInBounds_toArray, List.set_cons_zero, List.set_cons_succ])
      refine wpAnyH_take (i := 24) (v := undef) rfl (by kernel_rfl) (by kernel_rfl) (by kernel_rfl) (fun _ _ _ h => h) (Or.inr ⟨by rfl, rfl⟩) (by assumption) ?_
      (try simp only [Act.put, List.getElem_toArray, List.getElem_cons_zero, List.getElem_cons_succ, List.setIfInBounds_toArray, List.set_cons_zero, List.set_cons_succ])
      refine wpAnyH_take (i := 25) (v := undef) rfl (by kernel_rfl) (by kernel_rfl) (by kernel_rfl) (fun _ _ _ h => h) (Or.inr ⟨by rfl, rfl⟩) (by assumption) ?_
      (try simp only [Act.put, List.getElem_toArray, List.getElem_cons_zero, List.getElem_cons_succ, List.setIfInBounds_toArray, List.set_cons_zero, List.set_cons_succ])
      refine wpAnyH_take (i := 26) (v := ?hv34) rfl (by kernel_rfl) (by kernel_rfl) (by kernel_rfl) (fun _ _ _ h => h) (Or.inl ⟨by rfl, ?hy34⟩) (by assumption) ?hr34
      case hy34 => (intro w hSw; (try dsimp only at hSw); go_simp; try with_reducible rfl)
      (try simp only [Act.put, List.getElem_toArray, List.getElem_cons_zero, List.getElem_cons_succ, List.setIfInBounds_toArray, List.set_cons_zero, List.set_cons_succ])
      refine wpAnyH_take (i := 27) (v := ?hv35) rfl (by kernel_rfl) (by kernel_rfl) (by kernel_rfl) (fun _ _ _ h => h) (Or.inl ⟨by rfl, ?hy35⟩) (by assumption) ?hr35
      case hy35 => (intro w hSw; (try dsimp only at hSw); go_simp; try with_reducible rfl)
      (try simp only [Act.put, List.getElem_toArray, List.getElem_cons_zero, List.getElem_cons_succ, List.setIfInBounds_toArray, List.set_cons_zero, List.set_cons_succ])
      refine wpAnyH_done (by kernel_rfl) ?_ _
      clear hHeld
      go_wp2_with fail
      go_ret
      exact ⟨rfl, HB1.out.drew⟩
  have h7b : (k == 7) = false := by simpa using h7
  by_cases h1 : k = 1
  · subst h1
    have hv := HV.out
    rw [if_neg (by decide), if_pos rfl] at hv
    subst hv
    clear HV HRT HRE HNX HNO hi
    generalize i + 1 = i2 at *
    go_enter Tryz.func34, Tryz.ntmps34
    go_wp2_with fail
    go_ret
    exact ⟨rfl, HB1.out⟩
  have h1b : (k == 1) = false := by simpa using h1
  by_cases h6 : k = 6
  · subst h6
    have hv := HV.out
    rw [if_neg (by decide), if_neg (by decide), if_pos rfl] at hv
    have hre := HRE.out _ HB1.out (f : Int) HF.out
    generalize readE s (f : Int) = E at *
    obtain ⟨ez, ew, eo, el⟩ := E
    simp only [Es.val] at hv hre
    have HRE1 := hid hre
    have HVV := hid hv
    clear HV HRT HRE HNX HNO hi hre hv
    generalize i + 1 = i2 at *
    go_enter Tryz.func34, Tryz.ntmps34
    go_wp2_with fail
    refine HRE1.out.mono ?_
    rintro e w2 ⟨rfl, hb2⟩
    have HB2 := hid (HB1.out.trans (hb2.mono HB1.out.size))
    clear hb2
    have hfl : ∀ W : World, (Instr.field 106 (.agg #[.int .i64 ez, .bool ew, .bool eo, .int .u8 el]) 2).run Tryz.prog W = .ok (.bool eo) W := fun W => by kernel_rfl
    go_wp2_with fail
    go_ret
    exact ⟨by rw [HVV.out]; rfl, HB2.out⟩
  have h6b : (k == 6) = false := by simpa using h6
  have hv := HV.out
  rw [if_neg h0, if_neg h1, if_neg h6, if_neg h7] at hv
  have hrt := HRT.out _ HB1.out (f : Int) HF.out
  generalize readV s (f : Int) = R at *
  obtain ⟨M, ok⟩ := R
  simp only [Mk.val] at hv hrt
  generalize M.kind = mk at *
  generalize M.size = mz at *
  generalize M.name = mn at *
  generalize M.single = ms at *
  generalize M.closed = mc at *
  have HRT1 := hid hrt
  clear HV HRT HRE HNX HNO hi hrt
  subst hv
  generalize i + 1 = i2 at *
  go_enter Tryz.func34, Tryz.ntmps34
  go_wp2_with fail
  refine HRT1.out.mono ?_
  rintro e w2 ⟨vv, rfl, hb2, hrow⟩
  obtain ⟨va, vc, rfl⟩ := owns_slice hrow
  clear hrow
  generalize M.attrs.length = vn at *
  have HB2 := hid (HB1.out.trans (hb2.mono HB1.out.size))
  have HB3 := hid (HB2.out.alloc HB2.out.size (.cells #[.int .i64 mk, .int .i64 mz, .string mn, .slice va vn vc, .bool ms, .bool v] 110))
  have q2 := Blk.new w2 110 #[.int .i64 mk, .int .i64 mz, .string mn, .slice va vn vc, .bool ms, .bool v]
  have v5 := q2.cell 5
  simp only [List.getElem?_toArray, List.getElem?_cons_zero, List.getElem?_cons_succ] at v5
  clear hb2 q2
  go_wp2_with fail
  go_ret
  exact ⟨rfl, HB3.out⟩
end Go.Proofs.YtpnbkecchfhimaaGreatDoor

/- out of FdB -/
namespace Go.Proofs.YtpnbkecchfhimaaGreatDoor
open Go.RowKit Go.Shelf
open Go.Lib (hid)
set_option linter.unusedVariables false
set_option linter.unusedSimpArgs false
set_option maxRecDepth 100000

set_option maxHeartbeats 4000000 in
theorem moved_tok (k : Int) (f tl p : Nat) (nm : ByteArray) (r : Int) (sg : Bool) (w : World) (hf : f ≤ 1000000) (ht : tl ≤ 1000000) (hp : p ≤ 1000000) :
    Calls Tryz.prog 61 #[.agg #[.int .i64 k, .int .i64 f, .int .i64 tl, .string nm, .int .i32 r, .bool sg], .int .i64 p] w fun e w' => e = .returned (.agg #[.int .i64 k, .int .i64 ((f + p : Nat) : Int), .int .i64 ((tl + p : Nat) : Int), .string nm, .int .i32 r, .bool sg]) ∧ Below w.heap.size w w' := by
  have hb2 := ((Below.refl w.heap.size w).alloc (Nat.le_refl _) (.cells #[.int .i64 k, .int .i64 f, .int .i64 tl, .string nm, .int .i32 r, .bool sg] 29)).alloc (by simp) (.cells tk0 29)
  have q0 := (Blk.new w 29 #[.int .i64 k, .int .i64 f, .int .i64 tl, .string nm, .int .i32 r, .bool sg]).alloc (.cells tk0 29)
  have q1 := Blk.new (w.alloc (.cells #[.int .i64 k, .int .i64 f, .int .i64 tl, .string nm, .int .i32 r, .bool sg] 29)) 29 tk0
  rw [World.size_alloc] at q1
  have h1 : (f : Int) + (p : Int) = ((f + p : Nat) : Int) := by omega
  have h2 : (tl : Int) + (p : Int) = ((tl + p : Nat) : Int) := by omega
  have h1b : IntKind.i64.wrap ((f + p : Nat) : Int) = ((f + p : Nat) : Int) := IntWalk.i64_in _ (by omega)
  have h2b : IntKind.i64.wrap ((tl + p : Nat) : Int) = ((tl + p : Nat) : Int) := IntWalk.i64_in _ (by omega)
  generalize f + p = f2 at *
  generalize tl + p = t2 at *
  have hne : w.heap.size ≠ w.heap.size + 1 := by omega
  have hs2 : w.heap.size < ((w.alloc (.cells #[.int .i64 k, .int .i64 f, .int .i64 tl, .string nm, .int .i32 r, .bool sg] 29)).alloc (.cells tk0 29)).heap.size := by simp; omega
  clear hf ht hp
  simp only [tk0] at q0 q1 hb2 hs2
  have Q0 := hid q0
  have Q1 := hid q1
  have HB2 := hid hb2
  have yf := q0.frozen
  have y1 := q0.cell 1
  simp only [List.getElem?_toArray, List.getElem?_cons_zero, List.getElem?_cons_succ] at y1
  clear q0 q1 hb2
  go_enter Tryz.func61, Tryz.ntmps61
  go_upto_region 1 with fail
  generalize (w.alloc (.cells #[.int .i64 k, .int .i64 f, .int .i64 tl, .string nm, .int .i32 r, .bool sg] 29)).alloc (.cells #[.int .i64 0, .int .i64 0, .int .i64 0, .string ⟨#[]⟩, .int .i32 0, .bool false] 29) = w2 at *
  have Q3 := hid (Q0.out.set_ 1 (.int .i64 f2))
  have R3 := hid (Q1.out.far (p := ⟨w.heap.size, 1, none⟩) (by exact fun e => hne e.symm) (.int .i64 f2))
  have HB3 := hid (HB2.out.setCell (p := ⟨w.heap.size, 1, none⟩) (Nat.le_refl _) (.int .i64 f2))
  go_upto_region 2 with fail
  generalize w2.setCell ⟨w.heap.size, 1, none⟩ (.int .i64 f2) = w3 at *
  clear yf y1 Q0 Q1 HB2 hs2
  have yf := Q3.out.frozen
  have y2 := Q3.out.cell 2
  simp only [List.setIfInBounds_toArray, List.set_cons_zero, List.set_cons_succ, List.getElem?_toArray, List.getElem?_cons_zero, List.getElem?_cons_succ] at y2
  have Q4 := hid (Q3.out.set_ 2 (.int .i64 t2))
  have R4 := hid (R3.out.far (p := ⟨w.heap.size, 2, none⟩) (by exact fun e => hne e.symm) (.int .i64 t2))
  have HB4 := hid (HB3.out.setCell (p := ⟨w.heap.size, 2, none⟩) (Nat.le_refl _) (.int .i64 t2))
  go_upto_region 3 with fail
  generalize w3.setCell ⟨w.heap.size, 2, none⟩ (.int .i64 t2) = w4 at *
  clear yf y2 Q3 R3 HB3
  have y0 := Q4.out.cell 0
  have y1 := Q4.out.cell 1
  have y2 := Q4.out.cell 2
  have y3 := Q4.out.cell 3
  have y4 := Q4.out.cell 4
  have y5 := Q4.out.cell 5
  simp only [List.setIfInBounds_toArray, List.set_cons_zero, List.set_cons_succ, List.getElem?_toArray, List.getElem?_cons_zero, List.getElem?_cons_succ] at y0 y1 y2 y3 y4 y5
  have zf := R4.out.frozen
  have z0 := R4.out.cell 0
  have z1 := R4.out.cell 1
  have z2 := R4.out.cell 2
  have z3 := R4.out.cell 3
  have z4 := R4.out.cell 4
  have z5 := R4.out.cell 5
  simp only [List.getElem?_toArray, List.getElem?_cons_zero, List.getElem?_cons_succ] at z0 z1 z2 z3 z4 z5
  have HK := hid (sSet_blk (k := k) (f := (f2 : Int)) (t := (t2 : Int)) (nm := nm) (z := r) (sg := sg) R4.out)
  have HL := hid (sSet_below (k := k) (f := (f2 : Int)) (t := (t2 : Int)) (nm := nm) (z := r) (sg := sg) (show w.heap.size ≤ w.heap.size + 1 by omega) HB4.out)
  go_wp2_with fail
  change bodyPost _ _ _ _ _ (sSet w4 (w.heap.size + 1) k f2 t2 nm r sg)
  generalize sSet w4 (w.heap.size + 1) k f2 t2 nm r sg = W at *
  exact bodyPost_ret (results_cell_row rfl _ _ (w.heap.size + 1) _ _ _ _ rfl HK.out Tryz.underlying29 rfl (by kernel_rfl)) rfl ⟨rfl, HL.out⟩
end Go.Proofs.YtpnbkecchfhimaaGreatDoor

/- out of FdC -/
namespace Go.Proofs.YtpnbkecchfhimaaGreatDoor
open Go.RowKit Go.Shelf
open Go.Lib (hid)
set_option linter.unusedVariables false
set_option linter.unusedSimpArgs false
set_option maxRecDepth 100000

/-- Which tokens stay behind an answer of e: how many do not, and how many of those that do are answered. -/
def nextM (l : List Tk) (e : Nat) : Nat × Nat := match e with
  | 0 => (0, 0)
  | e + 1 => if keepB (l.getD e ⟨0, 0, 0, noB, 0, false⟩) = true then (e, 1) else (e + 1, 0)
theorem addr0F (g j : Nat) : (Addr.add ⟨g, 0, none⟩ j) = ⟨g, j, none⟩ := by unfold Addr.add; split <;> simp_all
theorem TR.grown {w w' : World} {A : Option Addr} {n g : Nat} {l : List Tk} (h : TR w A n l) (hg : w.grownBy w' (some g)) (hne : ∀ b, A = some ⟨b, 0, none⟩ → b ≠ g) : TR w' A n l :=
  ⟨h.1, fun hn => by
    obtain ⟨b, e, hb, hz⟩ := h.2 hn
    exact ⟨b, e, Nat.lt_of_lt_of_le hb hg.size, fun j hj f hf => (World.cell?_of_block (hg.block b hb (fun e2 => hne b e (by injection e2)))).trans (hz j hj f hf)⟩⟩
theorem BA.grown {w w' : World} {A : Option Addr} {n c g : Nat} {s : ByteArray} (h : BA w A n c s) (hg : w.grownBy w' (some g)) (hne : ∀ b o, A = some ⟨b, o, none⟩ → b ≠ g) : BA w' A n c s :=
  ⟨h.1, h.2.1, h.2.2.1, fun hn => by
    obtain ⟨b, o, e, hb, hz⟩ := h.2.2.2 hn
    exact ⟨b, o, e, Nat.lt_of_lt_of_le hb hg.size, Bytes.keepAt hz fun k => World.cell?_of_block (hg.block b hb (fun e2 => hne b o e (by injection e2)))⟩⟩
theorem ba_segF {w : World} {b off n cap : Nat} {s : ByteArray} {i e : Nat} (hz : Lib.Bytes w b off s) (hb : b < w.heap.size) (hn : n = s.size) (hc : n ≤ cap) (hm : cap ≤ 9223372036854775807) (h1 : i ≤ e) (h2 : e ≤ n) : BA w (some ⟨b, off + i, none⟩) (e - i) (cap - i) (s.extract i e) := by
  refine ⟨by rw [ByteArray.size_extract]; omega, by omega, by omega, fun _ => ⟨b, off + i, rfl, hb, ?_⟩⟩
  apply bytes_of_byt
  intro k hk
  rw [ByteArray.size_extract] at hk
  rw [byt_extract s i e k (by omega) (by omega), Nat.add_assoc, bytes_cell hz (i := i + k) (by omega)]
/-- A feeder's cells. -/
def fdC (Ab : Option Addr) (nb cb p k : Nat) (vw : Value) (wa fd wt : Int) (cl : Bool) : Array Value := #[.slice Ab nb cb, .int .i64 p, .int .i64 k, vw, .int .i64 wa, .int .i64 fd, .int .i64 wt, .bool cl]
set_option maxHeartbeats 8000000 in
theorem answer_any (g : Nat) (A : Option Addr) (n cap : Nat) (t : ByteArray) (Ab : Option Addr) (nb cb p k e : Nat) (vw : Value) (wa fd wt : Int) (cl : Bool) (w : World)
    (hb : Blk w g 64 (fdC Ab nb cb p k vw wa fd wt cl)) (hba : BA w Ab nb cb t) (htr : TR w A n (toks t)) (hcap : n ≤ cap) (hcm : cap ≤ 9223372036854775807) (hA : ∀ b, A = some ⟨b, 0, none⟩ → b ≠ g) (hAb : ∀ b o, Ab = some ⟨b, o, none⟩ → b ≠ g) (hke : k ≤ e) (hen : e ≤ n) (hm : t.size ≤ 1000000) (hp : p ≤ 1000000) :
    Calls Tryz.prog 36 #[.pointer (some ⟨g, 0, none⟩), .slice A n cap, .int .i64 e] w fun E w' => ∃ v, E = .returned v ∧ w'.ownsRow w.heap.size 29 6 v (e - k) (tkCells ((((toks t).take e).drop k).map (Tk.up p))) ∧
      (∃ Ab' cb', Blk w' g 64 (fdC Ab' (nb - begT (toks t) (nextM (toks t) e).1) cb' (p + begT (toks t) (nextM (toks t) e).1) (nextM (toks t) e).2 (.slice Ab nb cb) p fd wt cl) ∧ BA w' Ab' (nb - begT (toks t) (nextM (toks t) e).1) cb' (t.extract (begT (toks t) (nextM (toks t) e).1) t.size) ∧ ∀ b o, Ab' = some ⟨b, o, none⟩ → ∃ o', Ab = some ⟨b, o', none⟩) ∧ w.grownBy w' (some g) := by
  obtain ⟨i0, hi, hz0, hz1, hz2⟩ := info_parts info_tk
  have hgl := hb.lt
  have x0 := hb.cell 0
  have x1 := hb.cell 1
  have x2 := hb.cell 2
  unfold fdC at x0 x1 x2
  simp only [List.getElem?_toArray, List.getElem?_cons_zero, List.getElem?_cons_succ] at x0 x1 x2
  have hnl := htr.1
  have hn6 : n ≤ 1000000 := by have := toks_len t; omega
  obtain ⟨d, hd⟩ : ∃ d, d = e - k := ⟨_, rfl⟩
  have hL : ∀ i, i < d → ∃ h : k + i < (toks t).length, (((toks t).take e).drop k)[i]? = some ((toks t)[k + i]'h) := fun i hi => by
    have h : k + i < (toks t).length := by omega
    refine ⟨h, ?_⟩
    rw [List.getElem?_drop, List.getElem?_take, if_pos (by omega), List.getElem?_eq_getElem h]
  have hLl : (((toks t).take e).drop k).length = d := by rw [List.length_drop, List.length_take]; omega
  have HTR := hid htr
  have HBA := hid hba
  have HBK := hid hb
  have HA := hid hA
  have HLl := hid hLl
  have HLI := hid hL
  have HMEM := hid (fun j (h : j < (toks t).length) => toks_mem (List.getElem_mem h))
  have HNM := hid (fun j (h : j < (toks t).length) => name_size (List.getElem_mem h))
  have HD := hid hd
  have hd6 : d ≤ 1000000 := by omega
  have hcm0 := hid hcm
  have HNL := hid hnl
  clear hcm hnl
  rw [← hd]
  have HKE := hid hke
  have HEN := hid hen
  clear hba htr hb hA hLl hL hd
  go_enter Tryz.func36, Tryz.ntmps36
  go_upto_region 2 with fail
  go_cut [19, 20, 21] (fun s19 s20 s21 wx => ∃ A' c', s19 = .slice A' d c' ∧ s20 = .int .i64 d ∧ s21 = .int .i64 0 ∧ Hid (k < e → ∃ b, A = some ⟨b, 0, none⟩ ∧ A' = some ⟨b, k * 6, none⟩) ∧ wx = w)
  case first =>
    have hcm : cap ≤ 9223372036854775807 := hcm0.out
    have hke' := HKE.out
    have hen' := HEN.out
    have hnn : ∀ q, q ≤ n → q ≤ cap := fun q h => by omega
    clear hnn
    have hec : e ≤ cap := by omega
    by_cases hlt : k < e
    · obtain ⟨b, rfl, _⟩ := HTR.out.2 (by omega)
      have hck : ¬ cap = k := by omega
      have hd1 := HD.out
      subst hd1
      go_wp2_with fail
      go_meet
      refine ⟨some ⟨b, k * 6, none⟩, cap - k, ?_, ?_, rfl, fun _ => ⟨b, rfl, rfl⟩, rfl⟩
      · first | rfl | (simp [Addr.add]; done) | (simp [Addr.add]; intro h; omega)
      · first | rfl | (simp; done) | (simp; omega)
    · obtain rfl : k = e := by omega
      obtain rfl : d = 0 := by rw [HD.out]; omega
      by_cases hck : cap = k
      · subst hck
        go_wp2_with fail
        go_meet
        exact ⟨A, 0, by simp, by simp, rfl, fun h => absurd h hlt, rfl⟩
      · go_wp2_with fail
        go_meet
        exact ⟨Option.map (fun x => x.add (k * 6)) A, cap - k, by simp, by simp, rfl, fun h => absurd h hlt, rfl⟩
  case rest =>
  obtain ⟨A', c', rfl, rfl, rfl, HA', hw⟩ := hcut
  obtain rfl : w = wc := hw.symm
  clear hke hen hcap
  go_wp2_with fail
  go_loopg [7, 21] d (fun kx s7 s21 wr => ∃ (v : Value) (i : Nat), s7 = v ∧ s21 = .int .i64 i ∧ i ≤ d ∧ d - i ≤ kx ∧ Hid (wr.ownsRow w.heap.size 29 6 v i (tkCells (((((toks t).take e).drop k).take i).map (Tk.up p)))) ∧ Hid (Below w.heap.size w wr))
  case atStart => exact ⟨_, 0, rfl, rfl, Nat.zero_le _, Nat.le_refl _, World.ownsRow_nil _ _ _ _, Below.refl _ _⟩
  case round =>
    obtain ⟨v, i, rfl, rfl, hi1, hg1, HROW, HB⟩ := hrel
    have hszr := HB.out.size
    by_cases hlt : i < d
    · have hlt' : (i : Int) < (d : Int) := by omega
      obtain ⟨hkl, hgi⟩ := HLI.out i hlt
      obtain ⟨b, rfl, rfl⟩ := HA'.out (by have := HD.out; omega)
      obtain ⟨b', e1, hbl, y0, y1, y2, y3, y4, y5⟩ := (HTR.out.below HB.out (Nat.le_refl _)).at_ hkl
      cases e1
      have HTK := hid (show ((((toks t).take e).drop k).take (i + 1)).map (Tk.up p) = ((((toks t).take e).drop k).take i).map (Tk.up p) ++ [Tk.up p (toks t)[k + i]] by
        rw [List.take_add_one, hgi, List.map_append]
        rfl)
      have hmm := HMEM.out _ hkl
      have hnm := HNM.out _ hkl
      generalize ((((toks t).take e).drop k).take i).map (Tk.up p) = acc at *
      generalize (toks t)[k + i] = u at *
      obtain ⟨uk, uf, ut, un, ur, us⟩ := u
      simp only at y0 y1 y2 y3 y4 y5 hmm hnm
      have hk6 : (k + i) * 6 = k * 6 + i * 6 := by omega
      rw [hk6] at y0 y1 y2 y3 y4 y5
      generalize k * 6 = k6 at *
      have HMV := hid (fun W => moved_tok uk uf ut p un ur us W (by omega) (by omega) hp)
      obtain ⟨f2, hf2⟩ : ∃ f2, f2 = uf + p := ⟨_, rfl⟩
      obtain ⟨t2, ht2⟩ : ∃ t2, t2 = ut + p := ⟨_, rfl⟩
      rw [← hf2, ← ht2] at HMV
      have HUP := hid (show Tk.up p ⟨uk, uf, ut, un, ur, us⟩ = ⟨uk, f2, t2, un, ur, us⟩ by rw [hf2, ht2]; rfl)
      clear hf2 ht2
      have hx1 := (HB.out.cell (p := ⟨g, 1, none⟩) hgl).trans x1
      clear hgi hkl hmm hnm hk6
      have hB5 := HB.out.alloc hszr (.cells #[.int .i64 uk, .int .i64 uf, .int .i64 ut, .string un, .int .i32 ur, .bool us] 29)
      have q5 := Blk.new wr 29 #[.int .i64 uk, .int .i64 uf, .int .i64 ut, .string un, .int .i32 ur, .bool us]
      have z0 := q5.cell 0
      have z1 := q5.cell 1
      have z2 := q5.cell 2
      have z3 := q5.cell 3
      have z4 := q5.cell 4
      have z5 := q5.cell 5
      simp only [List.getElem?_toArray, List.getElem?_cons_zero, List.getElem?_cons_succ] at z0 z1 z2 z3 z4 z5
      have hx5 := (((Below.refl wr.heap.size wr).alloc (Nat.le_refl _) (.cells #[.int .i64 uk, .int .i64 uf, .int .i64 ut, .string un, .int .i32 ur, .bool us] 29)).cell (p := ⟨g, 1, none⟩) (Nat.lt_of_lt_of_le hgl hszr)).trans hx1
      have hr5 := HROW.out.alloc (.cells #[.int .i64 uk, .int .i64 uf, .int .i64 ut, .string un, .int .i32 ur, .bool us] 29)
      have hl5 : wr.heap.size < (wr.alloc (.cells #[.int .i64 uk, .int .i64 uf, .int .i64 ut, .string un, .int .i32 ur, .bool us] 29)).heap.size := by simp
      have HB5 := hid hB5
      have HR5 := hid hr5
      clear q5 hB5 hr5 hx1
      go_upto_region 5 with fail
      generalize wr.alloc (.cells #[.int .i64 uk, .int .i64 uf, .int .i64 ut, .string un, .int .i32 ur, .bool us] 29) = w5 at *
      refine wp_region_held_drew (S := fun w' : World => w'.cell? ⟨wr.heap.size, 0, none⟩ = some (.int .i64 uk) ∧ w'.cell? ⟨wr.heap.size, 1, none⟩ = some (.int .i64 uf) ∧ w'.cell? ⟨wr.heap.size, 2, none⟩ = some (.int .i64 ut) ∧ w'.cell? ⟨wr.heap.size, 3, none⟩ = some (.string un) ∧ w'.cell? ⟨wr.heap.size, 4, none⟩ = some (.int .i32 ur) ∧ w'.cell? ⟨wr.heap.size, 5, none⟩ = some (.bool us) ∧ w'.cell? ⟨g, 1, none⟩ = some (.int .i64 p)) (by kernel_rfl) ⟨z0, z1, z2, z3, z4, z5, hx5⟩ (fun hHeld => ?_)
      refine wpAnyH_take (i := 0) (v := ?hv1) rfl (by kernel_rfl) (by kernel_rfl) (by kernel_rfl) (fun _ _ _ h => h) (Or.inl ⟨by rfl, ?hy1⟩) (by assumption) ?hr1
      case hy1 => (intro w hSw; (try dsimp only at hSw); go_simp; try with_reducible rfl)
      (try simp only [Act.put, List.getElem_toArray, List.getElem_cons_zero, List.setIfInBounds_toArray, List.set_cons_zero, List.set_cons_succ])
      refine wpAnyH_take (i := 1) (v := ?hv2) rfl (by kernel_rfl) (by kernel_rfl) (by kernel_rfl) (fun _ _ _ h => h) (Or.inl ⟨by rfl, ?hy2⟩) (by assumption) ?hr2
      case hy2 => (intro w hSw; (try dsimp only at hSw); go_simp; try with_reducible rfl)
      (try simp only [Act.put, List.getElem_toArray, List.getElem_cons_zero, List.getElem_cons_succ, List.setIfInBounds_toArray, List.set_cons_zero, List.set_cons_succ])
      refine wpAnyH_take (i := 2) (v := ?hv3) rfl (by kernel_rfl) (by kernel_rfl) (by kernel_rfl) (fun _ _ _ h => h) (Or.inl ⟨by rfl, ?hy3⟩) (by assumption) ?hr3
      case hy3 => (intro w hSw; (try dsimp only at hSw); go_simp; try with_reducible rfl)
      (try simp only [Act.put, List.getElem_toArray, List.getElem_cons_zero, List.getElem_cons_succ, List.setIfInBounds_toArray, List.set_cons_zero, List.set_cons_succ])
      refine wpAnyH_take (i := 3) (v := ?hv4) rfl (by kernel_rfl) (by kernel_rfl) (by kernel_rfl) (fun _ _ _ h => h) (Or.inl ⟨by rfl, ?hy4⟩) (by assumption) ?hr4
      case hy4 => (intro w hSw; (try dsimp only at hSw); go_simp; try with_reducible rfl)
      (try simp only [Act.put, List.getElem_toArray, List.getElem_cons_zero, List.getElem_cons_succ, List.setIfInBounds_toArray, List.set_cons_zero, List.set_cons_succ])
      refine wpAnyH_take (i := 4) (v := ?hv5) rfl (by kernel_rfl) (by kernel_rfl) (by kernel_rfl) (fun _ _ _ h => h) (Or.inl ⟨by rfl, ?hy5⟩) (by assumption) ?hr5
      case hy5 => (intro w hSw; (try dsimp only at hSw); go_simp; try with_reducible rfl)
      (try simp only [Act.put, List.getElem_toArray, List.getElem_cons_zero, List.getElem_cons_succ, List.setIfInBounds_toArray, List.set_cons_zero, List.set_cons_succ])
      refine wpAnyH_take (i := 5) (v := ?hv6) rfl (by kernel_rfl) (by kernel_rfl) (by kernel_rfl) (fun _ _ _ h => h) (Or.inl ⟨by rfl, ?hy6⟩) (by assumption) ?hr6
      case hy6 => (intro w hSw; (try dsimp only at hSw); go_simp; try with_reducible rfl)
      (try simp only [Act.put, List.getElem_toArray, List.getElem_cons_zero, List.getElem_cons_succ, List.setIfInBounds_toArray, List.set_cons_zero, List.set_cons_succ])
      refine wpAnyH_ready (rs := [6]) (by kernel_rfl) (by simp) ?_
      refine AllReadyH.cons rfl (fun K hK => ?_) AllReadyH.nil
      go_simp
      go_at_call 61
      refine (HMV.out _).mono ?_
      rintro e w6 ⟨rfl, hb6⟩
      have hg5 : g < w5.heap.size := by omega
      have HS6 := hid (And.intro ((hb6.cell (p := ⟨wr.heap.size, 0, none⟩) hl5).trans z0) (And.intro ((hb6.cell (p := ⟨wr.heap.size, 1, none⟩) hl5).trans z1) (And.intro ((hb6.cell (p := ⟨wr.heap.size, 2, none⟩) hl5).trans z2) (And.intro ((hb6.cell (p := ⟨wr.heap.size, 3, none⟩) hl5).trans z3) (And.intro ((hb6.cell (p := ⟨wr.heap.size, 4, none⟩) hl5).trans z4) (And.intro ((hb6.cell (p := ⟨wr.heap.size, 5, none⟩) hl5).trans z5) ((hb6.cell (p := ⟨g, 1, none⟩) hg5).trans hx5)))))))
      have HB6 := hid (HB5.out.drew.trans (hb6.mono (by exact HB5.out.size)))
      have HR6 := hid (owns_below (w := w5.drew) HR5.out hb6)
      have hl6 := Nat.lt_of_lt_of_le hl5 hb6.size
      have hg6 := Nat.lt_of_lt_of_le hg5 hb6.size
      clear hb6 z0 z1 z2 z3 z4 z5 hx5 y0 y1 y2 y3 y4 y5
      go_wp2_with fail
      refine hK.out _ _ HS6.out (fun hHeld2 => ?_)
      clear hK K hHeld
      refine wpAnyH_ready (rs := [7]) (by kernel_rfl) (by simp) ?_
      refine AllReadyH.cons rfl (fun K hK => ?_) AllReadyH.nil
      go_simp
      have hb7 : Below w6.heap.size w6 (w6.alloc (.cells #[.int .i64 uk, .int .i64 f2, .int .i64 t2, .string un, .int .i32 ur, .bool us] 29)) := (Below.refl _ _).alloc (Nat.le_refl _) _
      have q7 := Blk.new w6 29 #[.int .i64 uk, .int .i64 f2, .int .i64 t2, .string un, .int .i32 ur, .bool us]
      have hrd : Reads (w6.alloc (.cells #[.int .i64 uk, .int .i64 f2, .int .i64 t2, .string un, .int .i32 ur, .bool us] 29)) (w6.heap.size + 1) 6 (some ⟨w6.heap.size, 0, none⟩) 1 (tkC ⟨uk, f2, t2, un, ur, us⟩).toList := by
        refine ⟨rfl, fun _ => ⟨_, rfl, by simp, fun j u hu => ?_⟩⟩
        have hj : j < 6 := (List.getElem?_eq_some_iff.1 hu).1
        rw [addr0F]
        rw [q7.cell j]
        simpa [tkC] using hu
      have HS7 := hid (And.intro ((hb7.cell (p := ⟨wr.heap.size, 0, none⟩) hl6).trans HS6.out.1) (And.intro ((hb7.cell (p := ⟨wr.heap.size, 1, none⟩) hl6).trans HS6.out.2.1) (And.intro ((hb7.cell (p := ⟨wr.heap.size, 2, none⟩) hl6).trans HS6.out.2.2.1) (And.intro ((hb7.cell (p := ⟨wr.heap.size, 3, none⟩) hl6).trans HS6.out.2.2.2.1) (And.intro ((hb7.cell (p := ⟨wr.heap.size, 4, none⟩) hl6).trans HS6.out.2.2.2.2.1) (And.intro ((hb7.cell (p := ⟨wr.heap.size, 5, none⟩) hl6).trans HS6.out.2.2.2.2.2.1) ((hb7.cell (p := ⟨g, 1, none⟩) hg6).trans HS6.out.2.2.2.2.2.2)))))))
      have HB7 := hid (HB6.out.trans (hb7.mono HB6.out.size))
      have HR7 := hid (owns_below HR6.out hb7)
      have HRD := hid hrd
      have hs7 : (w6.alloc (.cells #[.int .i64 uk, .int .i64 f2, .int .i64 t2, .string un, .int .i32 ur, .bool us] 29)).heap.size = w6.heap.size + 1 := by simp
      clear hb7 q7 hrd
      generalize w6.alloc (.cells #[.int .i64 uk, .int .i64 f2, .int .i64 t2, .string un, .int .i32 ur, .bool us] 29) = w7 at *
      refine hK.out _ _ HS7.out (fun hHeld3 => ?_)
      clear hK K hHeld2
      refine wpAnyH_ready (rs := [8]) (by kernel_rfl) (by simp) ?_
      refine AllReadyH.cons rfl (fun K hK => ?_) AllReadyH.nil
      rw [if_pos (by kernel_rfl)]
      refine wp_append_any _ (.tmp 25) (.tmp 32) 24 rfl w.heap.size 29 i0 (.agg tk0) 6 48 Tryz.underlying24 hi hz0 hz1 hz2 rfl (by decide) u7 i (tkCells acc) rfl HR7.out (w6.heap.size + 1) (some ⟨w6.heap.size, 0, none⟩) 1 1 (tkC ⟨uk, f2, t2, un, ur, us⟩).toList rfl HRD.out (by intro u hu; simp [tkC] at hu; rcases hu with rfl | rfl | rfl | rfl | rfl | rfl <;> rfl) (by have := HD.out; have := HEN.out; unfold maxLen; omega) (by have := HD.out; have := HEN.out; omega) (by have := HB7.out.size; omega) ?_
      intro v8 w8 hown8 hgrow8 _
      have HB8 := hid (HB7.out.grown hgrow8 HB7.out.size (fun j e => (HR7.out.lt j e).1))
      have hne8 : ∀ b, u7.ownBlock = some b → b ≠ wr.heap.size ∧ b ≠ g := fun b e => by
        have h1 := HROW.out.lt b e
        omega
      have hw78 := hgrow8
      have hk8 : ∀ (q : Addr), q.block = wr.heap.size ∨ q.block = g → w8.cell? q = w7.cell? q := fun q hq => World.cell?_of_block (hgrow8.block q.block (by have := HB7.out.size; have := HB6.out.size; omega) (fun e => by have := hne8 _ e.symm; omega))
      have HS8 := hid (And.intro ((hk8 ⟨wr.heap.size, 0, none⟩ (.inl rfl)).trans HS7.out.1) (And.intro ((hk8 ⟨wr.heap.size, 1, none⟩ (.inl rfl)).trans HS7.out.2.1) (And.intro ((hk8 ⟨wr.heap.size, 2, none⟩ (.inl rfl)).trans HS7.out.2.2.1) (And.intro ((hk8 ⟨wr.heap.size, 3, none⟩ (.inl rfl)).trans HS7.out.2.2.2.1) (And.intro ((hk8 ⟨wr.heap.size, 4, none⟩ (.inl rfl)).trans HS7.out.2.2.2.2.1) (And.intro ((hk8 ⟨wr.heap.size, 5, none⟩ (.inl rfl)).trans HS7.out.2.2.2.2.2.1) ((hk8 ⟨g, 1, none⟩ (.inr rfl)).trans HS7.out.2.2.2.2.2.2)))))))
      have HROW8 := hid hown8
      clear hw78 hk8 hown8 hgrow8 hne8
      refine hK.out _ _ HS8.out (fun hHeld4 => ?_)
      clear hK K hHeld3
      refine wpAnyH_take (i := 9) (v := ?hv7) rfl (by kernel_rfl) (by kernel_rfl) (by kernel_rfl) (fun _ _ _ h => h) (Or.inl ⟨by rfl, ?hy7⟩) (by assumption) ?hr7
      case hy7 => (intro w hSw; (try dsimp only at hSw); go_simp; try with_reducible rfl)
      (try simp only [Act.put, List.getElem_toArray, List.getElem_cons_zero, List.getElem_cons_succ, List.setIfInBounds_toArray, List.set_cons_zero, List.set_cons_succ])
      refine wpAnyH_done (by kernel_rfl) ?_ _
      clear hHeld4
      go_wp2_with fail
      go_roundg (d - (i + 1))
      case measure => omega
      case rel => exact ⟨v8, i + 1, rfl, by go_num, by omega, Nat.le_refl _, by
        show World.ownsRow _ _ _ _ _ _ _
        rw [HTK.out, HUP.out, tkCells_snoc]
        exact HROW8.out, HB8.out⟩
    · obtain rfl : i = d := by omega
      have hlt' : ¬ (i : Int) < (i : Int) := by omega
      have HFIN := hid (show ((((toks t).take e).drop k).take i).map (Tk.up p) = (((toks t).take e).drop k).map (Tk.up p) by
        rw [List.take_of_length_le (by rw [HLl.out]; omega)])
      have hbr := HBK.out.below HB.out hgl
      have y0 := hbr.cell 0
      have y1 := hbr.cell 1
      have y3 := hbr.cell 3
      have y4 := hbr.cell 4
      have yf := hbr.frozen
      unfold fdC at y0 y1 y3 y4
      simp only [List.getElem?_toArray, List.getElem?_cons_zero, List.getElem?_cons_succ] at y0 y1 y3 y4
      have HBR := hid hbr
      clear hbr
      go_upto_region 7 with fail
      go_region
      have hb9 := ((HBR.out.set_ 3 (.slice Ab nb cb)).set_ 4 (.int .i64 p)).drew
      have hg9 := (((grown_of_below HB.out (some g)).trans (grown_set wr g 3 (.slice Ab nb cb))).trans (grown_set _ g 4 (.int .i64 p))).trans (grown_of_below ((Below.refl _ _).drew) (some g))
      have hb9' : Blk ((wr.setCell ⟨g, 3, none⟩ (.slice Ab nb cb)).setCell ⟨g, 4, none⟩ (.int .i64 p)).drew g 64 #[.slice Ab nb cb, .int .i64 p, .int .i64 k, .slice Ab nb cb, .int .i64 p, .int .i64 fd, .int .i64 wt, .bool cl] := by simpa [fdC] using hb9
      have hrg : ∀ j, u7.ownBlock = some j → some g ≠ some j := fun j e1 e2 => by
        have h1 := HROW.out.lt j e1
        injection e2 with e2
        omega
      have hr9 := own_kept (own_kept HROW.out (grown_set wr g 3 (.slice Ab nb cb)) hrg) (grown_set _ g 4 (.int .i64 p)) hrg
      rw [HFIN.out] at hr9
      have HRG := hid hrg
      have HB9 := hid hb9'
      have HG9 := hid hg9
      have HR9 := hid (show ((wr.setCell ⟨g, 3, none⟩ (.slice Ab nb cb)).setCell ⟨g, 4, none⟩ (.int .i64 p)).drew.ownsRow w.heap.size 29 6 u7 i (tkCells ((((toks t).take e).drop k).map (Tk.up p))) from hr9)
      clear hb9 hb9' hg9 hr9 hrg HFIN HROW HBR y0 y1 y3 y4 yf x0 x1 x2 hlt' hlt hg1 hi1 hszr
      have hAb' := hid hAb
      clear hAb
      generalize ((wr.setCell ⟨g, 3, none⟩ (.slice Ab nb cb)).setCell ⟨g, 4, none⟩ (.int .i64 p)).drew = w9 at *
      by_cases he0 : e = 0
      · subst he0
        obtain rfl : k = 0 := by have := HKE.out; omega
        go_wp2_with fail
        go_ret
        refine ⟨u7, rfl, HR9.out, ⟨Ab, cb, HB9.out, ?_, fun b o e => ⟨o, e⟩⟩, HG9.out⟩
        show BA w9 Ab nb cb (t.extract 0 t.size)
        rw [ByteArray.extract_zero_size]
        exact HBA.out.grown HG9.out hAb'.out
      · obtain ⟨e1, rfl⟩ : ∃ e1, e = e1 + 1 := ⟨e - 1, by omega⟩
        have hen' := HEN.out
        have htr9 := HTR.out.grown HG9.out HA.out
        obtain ⟨b, rfl, _⟩ := htr9.2 (by omega)
        have hel : e1 < (toks t).length := by have := HNL.out; omega
        obtain ⟨b', e', hbl, y0, y1, y2, y3, y4, y5⟩ := htr9.at_ hel
        cases e'
        have HKP := hid (fun W => keeps_tok (toks t)[e1] W)
        have HGET := hid (show (toks t).getD e1 ⟨0, 0, 0, noB, 0, false⟩ = (toks t)[e1] by rw [List.getD_eq_getElem?_getD, List.getElem?_eq_getElem hel]; rfl)
        have HBE := hid (show (toks t)[e1].fr = begT (toks t) e1 from toks_beg (List.getElem?_eq_getElem hel))
        have hmm := HMEM.out e1 hel
        have HTR9 := hid htr9
        generalize (toks t)[e1] = tk at *
        obtain ⟨uk, uf, ut, un, ur, us⟩ := tk
        simp only [tkC] at y0 y1 y2 y3 y4 y5 HKP hmm HBE
        have h1 : ((e1 + 1 : Nat) : Int) - 1 = (e1 : Int) := by omega
        have h2 : (((e1 + 1 : Nat) : Int) == 0) = false := by simp; omega
        have h3 : (e1 : Int) < (n : Int) := by omega
        have h3b : (e1 : Int) ≤ 1000000 := by omega
        have hsp := (HB9.out.cell 0)
        have hwe : IntKind.i64.wrap (e1 : Int) = e1 := IntWalk.i64_in _ (by omega)
        generalize he2 : e1 + 1 = e2 at h1 h2
        have HE2 := hid he2
        have HEN2 := hid hen'
        clear htr9 hel he2 he0 hen' hsp
        go_wp2_with fail
        refine (HKP.out w9).mono ?_
        rintro e' w10 ⟨rfl, hb10⟩
        have hg9 := HB9.out.lt
        have HB10 := hid (HB9.out.below hb10 hg9)
        have HG10 := hid (HG9.out.trans (grown_of_below hb10 (some g)))
        have HR10 := hid (owns_below HR9.out hb10)
        have z0 := HB10.out.cell 0
        have z1 := HB10.out.cell 1
        have z2 := HB10.out.cell 2
        have zf := HB10.out.frozen
        simp only [List.getElem?_toArray, List.getElem?_cons_zero, List.getElem?_cons_succ] at z0 z1 z2
        have y1' := (hb10.cell (p := ⟨b, e1 * 6 + 1, none⟩) hbl).trans y1
        have HTR10 := hid (HTR9.out.below hb10 (Nat.le_refl _))
        clear hb10 y0 y1 y2 y3 y4 y5 HB9 HG9 HR9 HTR9
        by_cases hk : keepB ⟨uk, uf, ut, un, ur, us⟩ = true
        · have HNX : Hid (nextM (toks t) (e1 + 1) = (e1, 1)) := by
            show (if keepB ((toks t).getD e1 ⟨0, 0, 0, noB, 0, false⟩) = true then (e1, 1) else (e1 + 1, 0)) = (e1, 1)
            rw [HGET.out]
            exact if_pos hk
          clear HGET
          have hf1 := hmm.1
          have hf2 := hmm.2.1
          generalize hgf : uf = f0 at *
          have HF0 := hid (show f0 = begT (toks t) e1 from HBE.out)
          have hba0 := HBA.out
          obtain ⟨hb1, hb2, hb3, hb4⟩ := hba0
          obtain ⟨bb, off, rfl, hbb, hbz⟩ := hb4 (by omega)
          have HBT := hid (show ∀ W, w.grownBy W (some g) → BA W (some ⟨bb, off + f0, none⟩) (nb - f0) (nb - f0) (t.extract f0 t.size) from fun W h => by
            have h0 := (ba_segF (cap := nb) hbz hbb hb1 (Nat.le_refl _) (by omega) (show f0 ≤ nb by omega) (Nat.le_refl _)).grown h (fun b o e => by cases e; exact hAb'.out bb off rfl)
            have e : t.extract f0 nb = t.extract f0 t.size := by rw [hb1]
            rw [e] at h0
            exact h0)
          have hfn : f0 ≤ nb := by omega
          have hfn2 : (f0 : Int) ≤ (nb : Int) := by omega
          have hfne : ¬ nb = f0 := by omega
          have hpf : (p : Int) + (f0 : Int) = ((p + f0 : Nat) : Int) := by omega
          have hpw : IntKind.i64.wrap ((p + f0 : Nat) : Int) = ((p + f0 : Nat) : Int) := IntWalk.i64_in _ (by omega)
          generalize hpp : p + f0 = pf at *
          have HPF := hid hpp
          clear hpp hbz hb4 hb1
          go_upto_region 16 with fail
          go_region
          have hb11 := (((HB10.out.set_ 0 (.slice (some ⟨bb, off + f0, none⟩) (nb - f0) (nb - f0))).set_ 1 (.int .i64 pf)).set_ 2 (.int .i64 1)).drew
          have hg11 := (((HG10.out.trans (grown_set w10 g 0 (.slice (some ⟨bb, off + f0, none⟩) (nb - f0) (nb - f0)))).trans (grown_set _ g 1 (.int .i64 pf))).trans (grown_set _ g 2 (.int .i64 1))).trans (grown_of_below ((Below.refl _ _).drew) (some g))
          have hr11 := own_kept (own_kept (own_kept HR10.out (grown_set w10 g 0 (.slice (some ⟨bb, off + f0, none⟩) (nb - f0) (nb - f0))) HRG.out) (grown_set _ g 1 (.int .i64 pf)) HRG.out) (grown_set _ g 2 (.int .i64 1)) HRG.out
          have hb12 : Blk (((w10.setCell ⟨g, 0, none⟩ (.slice (some ⟨bb, off + f0, none⟩) (nb - f0) (nb - f0))).setCell ⟨g, 1, none⟩ (.int .i64 pf)).setCell ⟨g, 2, none⟩ (.int .i64 1)).drew g 64 #[.slice (some ⟨bb, off + f0, none⟩) (nb - f0) (nb - f0), .int .i64 pf, .int .i64 1, .slice (some ⟨bb, off, none⟩) nb cb, .int .i64 p, .int .i64 fd, .int .i64 wt, .bool cl] := by simpa using hb11
          have HBL := hid hb12
          have HGR := hid hg11
          have HRW := hid (show (((w10.setCell ⟨g, 0, none⟩ (.slice (some ⟨bb, off + f0, none⟩) (nb - f0) (nb - f0))).setCell ⟨g, 1, none⟩ (.int .i64 pf)).setCell ⟨g, 2, none⟩ (.int .i64 1)).drew.ownsRow w.heap.size 29 6 u7 i (tkCells ((((toks t).take (e1 + 1)).drop k).map (Tk.up p))) from hr11)
          clear hb11 hb12 hg11 hr11
          generalize (((w10.setCell ⟨g, 0, none⟩ (.slice (some ⟨bb, off + f0, none⟩) (nb - f0) (nb - f0))).setCell ⟨g, 1, none⟩ (.int .i64 pf)).setCell ⟨g, 2, none⟩ (.int .i64 1)).drew = w11 at *
          go_wp2_with fail
          go_ret
          refine ⟨u7, rfl, HRW.out, ⟨(some ⟨bb, off + f0, none⟩), (nb - f0), ?_, ?_, fun b o e => by cases e; exact ⟨off, rfl⟩⟩, HGR.out⟩
          · rw [HNX.out]
            show Blk w11 g _ (fdC _ (nb - begT (toks t) e1) _ (p + begT (toks t) e1) _ _ p fd wt cl)
            rw [← HF0.out, HPF.out]
            exact HBL.out
          · rw [HNX.out]
            show BA w11 _ (nb - begT (toks t) e1) _ (t.extract (begT (toks t) e1) t.size)
            rw [← HF0.out]
            exact HBT.out _ HGR.out
        · have hk : keepB ⟨uk, uf, ut, un, ur, us⟩ = false := by simpa using hk
          have HNX : Hid (nextM (toks t) (e1 + 1) = (e1 + 1, 0)) := by
            show (if keepB ((toks t).getD e1 ⟨0, 0, 0, noB, 0, false⟩) = true then (e1, 1) else (e1 + 1, 0)) = (e1 + 1, 0)
            rw [HGET.out]
            exact if_neg (by rw [hk]; decide)
          clear HGET
          by_cases hel2 : e2 < n
          · have hel2' : (e2 : Int) < (n : Int) := by omega
            have hel3 : e1 + 1 < (toks t).length := by rw [HE2.out, ← HNL.out]; exact hel2
            obtain ⟨b', e', hbl', q0, q1, q2, q3, q4, q5⟩ := HTR10.out.at_ hel3
            cases e'
            have hmm2 := HMEM.out (e1 + 1) hel3
            have HBE2 := hid (show (toks t)[e1 + 1].fr = begT (toks t) (e1 + 1) from toks_beg (List.getElem?_eq_getElem hel3))
            have hf1 : (toks t)[e1 + 1].fr < t.size := by omega
            generalize (toks t)[e1 + 1].fr = f0 at *
            rw [HE2.out] at q1
            clear hmm2 q0 q2 q3 q4 q5 hel3
            have HF0 := hid (show f0 = begT (toks t) (e1 + 1) from HBE2.out)
            have hba0 := HBA.out
            obtain ⟨hb1, hb2, hb3, hb4⟩ := hba0
            obtain ⟨bb, off, rfl, hbb, hbz⟩ := hb4 (by omega)
            have HBT := hid (show ∀ W, w.grownBy W (some g) → BA W (some ⟨bb, off + f0, none⟩) (nb - f0) (nb - f0) (t.extract f0 t.size) from fun W h => by
              have h0 := (ba_segF (cap := nb) hbz hbb hb1 (Nat.le_refl _) (by omega) (show f0 ≤ nb by omega) (Nat.le_refl _)).grown h (fun b o e => by cases e; exact hAb'.out bb off rfl)
              have e : t.extract f0 nb = t.extract f0 t.size := by rw [hb1]
              rw [e] at h0
              exact h0)
            have hfn : f0 ≤ nb := by omega
            have hfn2 : (f0 : Int) ≤ (nb : Int) := by omega
            have hfne : ¬ nb = f0 := by omega
            have hpf : (p : Int) + (f0 : Int) = ((p + f0 : Nat) : Int) := by omega
            have hpw : IntKind.i64.wrap ((p + f0 : Nat) : Int) = ((p + f0 : Nat) : Int) := IntWalk.i64_in _ (by omega)
            generalize hpp : p + f0 = pf at *
            have HPF := hid hpp
            clear hpp hbz hb4 hb1
            go_upto_region 16 with fail
            go_region
            have hb11 := (((HB10.out.set_ 0 (.slice (some ⟨bb, off + f0, none⟩) (nb - f0) (nb - f0))).set_ 1 (.int .i64 pf)).set_ 2 (.int .i64 0)).drew
            have hg11 := (((HG10.out.trans (grown_set w10 g 0 (.slice (some ⟨bb, off + f0, none⟩) (nb - f0) (nb - f0)))).trans (grown_set _ g 1 (.int .i64 pf))).trans (grown_set _ g 2 (.int .i64 0))).trans (grown_of_below ((Below.refl _ _).drew) (some g))
            have hr11 := own_kept (own_kept (own_kept HR10.out (grown_set w10 g 0 (.slice (some ⟨bb, off + f0, none⟩) (nb - f0) (nb - f0))) HRG.out) (grown_set _ g 1 (.int .i64 pf)) HRG.out) (grown_set _ g 2 (.int .i64 0)) HRG.out
            have hb12 : Blk (((w10.setCell ⟨g, 0, none⟩ (.slice (some ⟨bb, off + f0, none⟩) (nb - f0) (nb - f0))).setCell ⟨g, 1, none⟩ (.int .i64 pf)).setCell ⟨g, 2, none⟩ (.int .i64 0)).drew g 64 #[.slice (some ⟨bb, off + f0, none⟩) (nb - f0) (nb - f0), .int .i64 pf, .int .i64 0, .slice (some ⟨bb, off, none⟩) nb cb, .int .i64 p, .int .i64 fd, .int .i64 wt, .bool cl] := by simpa using hb11
            have HBL := hid hb12
            have HGR := hid hg11
            have HRW := hid (show (((w10.setCell ⟨g, 0, none⟩ (.slice (some ⟨bb, off + f0, none⟩) (nb - f0) (nb - f0))).setCell ⟨g, 1, none⟩ (.int .i64 pf)).setCell ⟨g, 2, none⟩ (.int .i64 0)).drew.ownsRow w.heap.size 29 6 u7 i (tkCells ((((toks t).take (e1 + 1)).drop k).map (Tk.up p))) from hr11)
            clear hb11 hb12 hg11 hr11
            generalize (((w10.setCell ⟨g, 0, none⟩ (.slice (some ⟨bb, off + f0, none⟩) (nb - f0) (nb - f0))).setCell ⟨g, 1, none⟩ (.int .i64 pf)).setCell ⟨g, 2, none⟩ (.int .i64 0)).drew = w11 at *
            go_wp2_with fail
            go_ret
            refine ⟨u7, rfl, HRW.out, ⟨(some ⟨bb, off + f0, none⟩), (nb - f0), ?_, ?_, fun b o e => by cases e; exact ⟨off, rfl⟩⟩, HGR.out⟩
            · rw [HNX.out]
              show Blk w11 g _ (fdC _ (nb - begT (toks t) (e1 + 1)) _ (p + begT (toks t) (e1 + 1)) _ _ p fd wt cl)
              rw [← HF0.out, HPF.out]
              exact HBL.out
            · rw [HNX.out]
              show BA w11 _ (nb - begT (toks t) (e1 + 1)) _ (t.extract (begT (toks t) (e1 + 1)) t.size)
              rw [← HF0.out]
              exact HBT.out _ HGR.out
          · have hel2' : ¬ (e2 : Int) < (n : Int) := by omega
            have HF0 := hid (show nb = begT (toks t) (e1 + 1) by
              have h1 := HE2.out
              have h2 := HEN2.out
              have h3 := HNL.out
              have h4 := HBA.out.1
              have : e1 + 1 = (toks t).length := by omega
              rw [this, toks_begEnd, h4])
            have hb1 := HBA.out.1
            have hb2 := HBA.out.2.1
            have hb3 := HBA.out.2.2.1
            have HBT := hid (fun W (h : w.grownBy W (some g)) => show BA W Ab (nb - nb) 0 (t.extract nb t.size) from ⟨by rw [ByteArray.size_extract]; omega, by omega, by decide, fun h => by omega⟩)
            have hnn0 : nb - nb = 0 := by omega
            rw [hnn0] at HBT
            have hpf : (p : Int) + (nb : Int) = ((p + nb : Nat) : Int) := by omega
            have hpw : IntKind.i64.wrap ((p + nb : Nat) : Int) = ((p + nb : Nat) : Int) := IntWalk.i64_in _ (by omega)
            generalize hpp : p + nb = pf at *
            have HPF := hid hpp
            have HNN0 := hid hnn0
            clear hpp hb1 hnn0
            go_upto_region 16 with fail
            go_region
            have hb11 := (((HB10.out.set_ 0 (.slice Ab 0 0)).set_ 1 (.int .i64 pf)).set_ 2 (.int .i64 0)).drew
            have hg11 := (((HG10.out.trans (grown_set w10 g 0 (.slice Ab 0 0))).trans (grown_set _ g 1 (.int .i64 pf))).trans (grown_set _ g 2 (.int .i64 0))).trans (grown_of_below ((Below.refl _ _).drew) (some g))
            have hr11 := own_kept (own_kept (own_kept HR10.out (grown_set w10 g 0 (.slice Ab 0 0)) HRG.out) (grown_set _ g 1 (.int .i64 pf)) HRG.out) (grown_set _ g 2 (.int .i64 0)) HRG.out
            have hb12 : Blk (((w10.setCell ⟨g, 0, none⟩ (.slice Ab 0 0)).setCell ⟨g, 1, none⟩ (.int .i64 pf)).setCell ⟨g, 2, none⟩ (.int .i64 0)).drew g 64 #[.slice Ab 0 0, .int .i64 pf, .int .i64 0, .slice Ab nb cb, .int .i64 p, .int .i64 fd, .int .i64 wt, .bool cl] := by simpa using hb11
            have HBL := hid hb12
            have HGR := hid hg11
            have HRW := hid (show (((w10.setCell ⟨g, 0, none⟩ (.slice Ab 0 0)).setCell ⟨g, 1, none⟩ (.int .i64 pf)).setCell ⟨g, 2, none⟩ (.int .i64 0)).drew.ownsRow w.heap.size 29 6 u7 i (tkCells ((((toks t).take (e1 + 1)).drop k).map (Tk.up p))) from hr11)
            clear hb11 hb12 hg11 hr11
            generalize (((w10.setCell ⟨g, 0, none⟩ (.slice Ab 0 0)).setCell ⟨g, 1, none⟩ (.int .i64 pf)).setCell ⟨g, 2, none⟩ (.int .i64 0)).drew = w11 at *
            go_wp2_with fail
            go_ret
            refine ⟨u7, rfl, HRW.out, ⟨Ab, 0, ?_, ?_, fun b o e => ⟨o, e⟩⟩, HGR.out⟩
            · rw [HNX.out]
              show Blk w11 g _ (fdC _ (nb - begT (toks t) (e1 + 1)) _ (p + begT (toks t) (e1 + 1)) _ _ p fd wt cl)
              rw [← HF0.out, HPF.out, HNN0.out]
              exact HBL.out
            · rw [HNX.out]
              show BA w11 _ (nb - begT (toks t) (e1 + 1)) _ (t.extract (begT (toks t) (e1 + 1)) t.size)
              rw [← HF0.out, HNN0.out]
              exact HBT.out _ HGR.out
end Go.Proofs.YtpnbkecchfhimaaGreatDoor
