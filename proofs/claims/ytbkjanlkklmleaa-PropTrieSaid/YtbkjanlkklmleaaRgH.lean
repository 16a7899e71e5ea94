/- Chapter 02: the document's gather: the walk. -/
import Derived.Test.YtbkjanlkklmleaaRgG
import Derived.Deep.CutBlock
namespace Go.Proofs.Ytbkjanlkklmleaa
open Go.RowKit
open Go.Lib (hid)
set_option linter.unusedVariables false
set_option maxRecDepth 100000

def wantB (how : Int) (x y : Bool) : Bool := if how = 1 then x && y else if how = 2 then x && !y else if how = 3 then !x else x || y
def wantR (a b : List Rg) (how : Int) (r : Int) : Bool := wantB how (inB a r) (inB b r)
def gathR (a b : List Rg) (how : Int) : List Rg := gatL (wantR a b how) [] (pointsR (a ++ b))
theorem RR.reads {w : World} {a : Option Addr} {n cap : Nat} {l : List Rg} (h : RR w a n cap l) : Reads w w.heap.size 2 a n (l.flatMap rgCells) := by
  refine ⟨by rw [rgCells_len, h.1], fun hn => ?_⟩
  obtain ⟨b, off, rfl, hb, hz⟩ := h.2.2.2 hn
  refine ⟨_, rfl, hb, fun j u hu => ?_⟩
  have hj : j < l.length * 2 := by
    have := (List.getElem?_eq_some_iff.1 hu).1
    rwa [rgCells_len] at this
  rw [show (Addr.add ⟨b, off, none⟩ j) = ⟨b, off + j, none⟩ by unfold Addr.add; split <;> simp_all]
  have hk : j / 2 < l.length := by omega
  obtain ⟨g0, g1⟩ := rgCells_get l (j / 2) hk
  obtain ⟨z0, z1⟩ := hz (j / 2) hk
  rcases Nat.mod_two_eq_zero_or_one j with h0 | h0
  · have e : j = j / 2 * 2 := by omega
    rw [e] at hu ⊢
    rw [← hu, g0]
    exact z0
  · have e : j = j / 2 * 2 + 1 := by omega
    rw [e] at hu ⊢
    rw [← hu, g1, ← Nat.add_assoc]
    exact z1
theorem rg_one (l : List Rg) : ∀ u ∈ l.flatMap rgCells, u.oneCell' = true := by
  intro u hu
  obtain ⟨x, _, h⟩ := List.mem_flatMap.1 hu
  simp [rgCells] at h
  rcases h with rfl | rfl <;> rfl
theorem gatL_one (W : Int → Bool) (out : List Rg) (p : Int) : gatL W out [p] = out := rfl
theorem gatL_two (W : Int → Bool) (out : List Rg) (p q : Int) (r : List Int) : gatL W out (p :: q :: r) = gatL W (gatS W out p q) (q :: r) := rfl
theorem gatS_no {W : Int → Bool} {out : List Rg} {p q : Int} (h : W p = false) : gatS W out p q = out := by unfold gatS; rw [h]; rfl
theorem gatS_nil {W : Int → Bool} {p q : Int} (h : W p = true) : gatS W [] p q = [(p, q - 1)] := by unfold gatS; rw [if_pos h]; rfl
theorem gatS_on {W : Int → Bool} {o : List Rg} {z : Rg} {p q : Int} (h : W p = true) (hz : z.2 + 1 = p) : gatS W (o ++ [z]) p q = o ++ [(z.1, q - 1)] := by
  unfold gatS
  rw [if_pos h, List.getLast?_concat]
  simp only
  rw [if_pos hz, List.dropLast_concat]
theorem gatS_new {W : Int → Bool} {o : List Rg} {z : Rg} {p q : Int} (h : W p = true) (hz : ¬ z.2 + 1 = p) : gatS W (o ++ [z]) p q = o ++ [z] ++ [(p, q - 1)] := by
  unfold gatS
  rw [if_pos h, List.getLast?_concat]
  simp only
  rw [if_neg hz]
/-- The ends so far are small. -/
def Ends (o : List Rg) : Prop := ∀ x ∈ o, -1 ≤ x.2 ∧ x.2 ≤ 1114111
theorem Ends.snoc {o : List Rg} {z : Rg} (h : Ends o) (h1 : -1 ≤ z.2) (h2 : z.2 ≤ 1114111) : Ends (o ++ [z]) := fun x hx => by
  rcases List.mem_append.1 hx with hx | hx
  · exact h x hx
  · rw [List.mem_singleton.1 hx]; exact ⟨h1, h2⟩
theorem Ends.init {o : List Rg} {z : Rg} (h : Ends (o ++ [z])) : Ends o := fun x hx => h x (List.mem_append_left _ hx)
theorem pointsR_len (l : List Rg) : (pointsR l).length ≤ 2 * l.length + 2 := by
  have h1 := insL_len 1114112 (pointsF l)
  have h2 := ptsI_len l l.length (Nat.le_refl _)
  unfold ptsI at h2
  rw [List.take_length] at h2
  unfold pointsR
  omega
theorem list_snoc {α : Type} (l : List α) : l = [] ∨ ∃ o z, l = o ++ [z] := by
  rcases List.eq_nil_or_concat l with h | ⟨o, z, h⟩
  · exact .inl h
  · exact .inr ⟨o, z, by rw [h, List.concat_eq_append]⟩

set_option maxHeartbeats 8000000 in
theorem gather_any (a1 : Option Addr) (n1 c1 : Nat) (l : List Rg) (a2 : Option Addr) (n2 c2 : Nat) (k : List Rg) (how : Int) (w : World) (h1 : RR w a1 n1 c1 l) (h2 : RR w a2 n2 c2 k)
    (hn1 : n1 ≤ 400000) (hn2 : n2 ≤ 400000) (hok1 : ∀ x ∈ l, okR x) (hok2 : ∀ x ∈ k, okR x) (hh : how = 0 ∨ how = 1 ∨ how = 2 ∨ how = 3) :
    Calls Try.prog 38 #[.slice a1 n1 c1, .slice a2 n2 c2, .int .i64 how] w fun e w' => RetR w e w' (gathR l k how) := by
  obtain ⟨i0, hi, hz0, hz1, hz2⟩ := info_parts info_rg2
  have hok : ∀ x ∈ l ++ k, okR x := fun x hx => (List.mem_append.1 hx).elim (hok1 x) (hok2 x)
  obtain ⟨p1, p2, p3, p4, p5⟩ := points_law hok
  have HOK := hid hok
  have H1 := hid h1
  have H2 := hid h2
  have hg : gathR l k how = gatL (wantR l k how) [] (pointsR (l ++ k)) := rfl
  have hw : ∀ r, wantR l k how r = wantB how (inB l r) (inB k r) := fun r => rfl
  rw [hg]
  have hpne : 0 < (pointsR (l ++ k)).length := List.length_pos_of_mem p3
  have hin1 := fun W r h => in_any a1 n1 c1 l r W h (by omega)
  have hin2 := fun W r h => in_any a2 n2 c2 k r W h (by omega)
  generalize inB l = X at *
  generalize inB k = Y at *
  generalize wantR l k how = W0 at *
  have HW := hid hw
  have HP2 := hid p2
  have HPN := hid hpne
  have hl1 := h1.1
  have hl2 := h2.1
  have HL1 := hid hl1
  have HL2 := hid hl2
  have ho0 := World.ownsRow_made (base := w.heap.size) (e := 49) (size := 2) w #[] 0 (Nat.le_refl _) (Nat.zero_le _) rfl
  have hb0 := (Below.refl w.heap.size w).alloc (Nat.le_refl _) (.cells #[] 49)
  have HO0 := hid ho0
  have HB0 := hid hb0
  have HI1 := hid hin1
  have HI2 := hid hin2
  clear hok1 hok2 hok p1 p2 p3 p4 p5 h1 h2 hg hw hpne hin1 hin2 hl1 hl2 ho0 hb0
  go_enter Try.func38, Try.ntmps38
  go_upto_region 1 with fail
  go_wp2_with (first
    | (at_builtin; refine wpList_append_any _ rfl (.tmp 14) (.tmp 15) 28 rfl w.heap.size 49 i0 (.agg #[.int .i32 0, .int .i32 0]) 2 8 Try.underlying28 hi hz0 hz1 hz2 rfl (by decide) _ 0 [] rfl HO0.out _ a1 n1 c1 (l.flatMap rgCells) rfl (H1.out.below HB0.out (Nat.le_refl _)).reads (rg_one _) (by unfold maxLen; omega) (by omega) (by simp) ?_; intro v1 W1 ho1 hg1 hq1; have HB1 := hid (HB0.out.grown hg1 (by simp) (own_ge HO0.out)); rw [Nat.zero_add, List.nil_append] at ho1; obtain ⟨A1, cc1, rfl⟩ := owns_slice ho1; have HO1 := hid ho1; clear ho1 hg1 hq1)
    | (at_builtin; refine wpList_append_any _ rfl (.tmp 16) (.tmp 17) 28 rfl w.heap.size 49 i0 (.agg #[.int .i32 0, .int .i32 0]) 2 8 Try.underlying28 hi hz0 hz1 hz2 rfl (by decide) _ n1 (l.flatMap rgCells) rfl HO1.out _ a2 n2 c2 (k.flatMap rgCells) rfl (H2.out.below HB1.out (Nat.le_refl _)).reads (rg_one _) (by unfold maxLen; omega) (by omega) HB1.out.size ?_; intro v2 W2 ho2 hg2 hq2; have HB2 := hid (HB1.out.grown hg2 HB1.out.size (own_ge HO1.out)); obtain ⟨A2, cc2, rfl⟩ := owns_slice ho2; have HO2 := hid ho2; clear ho2 hg2 hq2)
    | (go_at_call 48; have ho2 := HO2.out; rw [show l.flatMap rgCells ++ k.flatMap rgCells = (l ++ k).flatMap rgCells by rw [List.flatMap_append]] at ho2; refine (points_any A2 _ cc2 (l ++ k) W2 (RR.of_own ho2) (by omega) HOK.out).mono ?_; clear ho2; rintro e w3 ⟨A3, m3, c3, rfl, hr3, hb3⟩))
  obtain ⟨ps, hps⟩ : ∃ ps, ps = pointsR (l ++ k) := ⟨_, rfl⟩
  rw [← hps] at hr3 HP2 HPN
  have hmb : ps.length ≤ 3000000 := by have := pointsR_len (l ++ k); rw [← hps, List.length_append] at this; have := HL1.out; have := HL2.out; omega
  have HPS := hid hps
  clear hps
  have HB3 := hid (HB2.out.trans (hb3.mono HB2.out.size))
  have HI3 := hid hr3
  have HN3 := hid hr3.1
  have h3a := hr3.2.1
  have h3b := hr3.2.2.1
  have hm3 : 0 < m3 := by have := hr3.1; have := HPN.out; omega
  have hmb : m3 ≤ 3000000 := by have := hr3.1; omega
  obtain ⟨b, off, rfl, hbl, hcell⟩ := hr3.2.2.2 hm3
  have HC := hid hcell
  clear hr3 hb3 hcell
  go_wp2_with fail
  go_loopg [8, 9] m3 (fun kx s8 s9 wr => ∃ (i n c : Nat) (A : Option Addr) (out : List Rg), s8 = .slice A n c ∧ s9 = .int .i64 i ∧ i < m3 ∧ m3 - i ≤ kx ∧ n ≤ i ∧ Hid (n = out.length) ∧ Hid (wr.ownsRow w3.heap.size 49 2 (.slice A n c) n (out.flatMap rgCells)) ∧ Hid (Below w3.heap.size w3 wr) ∧ Hid (gatL W0 [] ps = gatL W0 out (ps.drop i)) ∧ Hid (Ends out))
  case atStart => exact ⟨0, 0, 0, none, [], rfl, rfl, hm3, by omega, Nat.zero_le _, rfl, World.ownsRow_nil _ _ _ _, Below.refl _ _, rfl, fun x hx => by cases hx⟩
  case round =>
    obtain ⟨i, n, c, A, out, rfl, rfl, him, hg, hni, HNO, HROW, HB, HG, HE⟩ := hrel
    have hszr := HB.out.size
    have HBW := hid (HB3.out.trans (HB.out.mono HB3.out.size))
    obtain ⟨i1, hi1⟩ : ∃ i1, i1 = i + 1 := ⟨_, rfl⟩
    have hii : (i : Int) + 1 = (i1 : Int) := by omega
    have HI1E := hid hi1
    by_cases hlt : i1 < m3
    · have hlt' : (i1 : Int) < (m3 : Int) := by omega
      have hil : i < ps.length := by have := HN3.out; omega
      have hil1 : i + 1 < ps.length := by have := HN3.out; omega
      have x0 := (HB.out.cell (p := ⟨b, _, none⟩) hbl).trans (HC.out i hil)
      have x1 := (HB.out.cell (p := ⟨b, _, none⟩) hbl).trans (HC.out (i + 1) hil1)
      have hdr : ps.drop i = ps[i] :: ps[i + 1] :: ps.drop (i + 1 + 1) := by rw [List.drop_eq_getElem_cons hil, List.drop_eq_getElem_cons hil1]
      have hdr1 : ps.drop (i + 1) = ps[i + 1] :: ps.drop (i + 1 + 1) := List.drop_eq_getElem_cons hil1
      have hgn : gatL W0 [] ps = gatL W0 (gatS W0 out ps[i] ps[i + 1]) (ps.drop i1) := by
        rw [HG.out, hdr, gatL_two, hi1, hdr1]
      have hp0 := HP2.out _ (List.getElem_mem hil)
      have hq0 := HP2.out _ (List.getElem_mem hil1)
      have hwp := HW.out ps[i]
      generalize ps[i + 1] = qq at *
      generalize ps[i] = pp at *
      rw [← hi1] at x1
      have HGN := hid hgn
      clear hdr hdr1 hgn hil1 hi1
      have HQ1 := hid (fun (N : Nat) => HI1.out (wr.drewN N) pp (H1.out.below (HBW.out.trans (below_drewN _ _ _)) (Nat.le_refl _)))
      have HQ2 := hid (fun (N : Nat) => HI2.out (wr.drewN N) pp (H2.out.below (HBW.out.trans (below_drewN _ _ _)) (Nat.le_refl _)))
      generalize X pp = x at *
      generalize Y pp = y at *
      have HWP := hid hwp
      clear hwp
      go_upto_region 6 with fail
      go_quiet (first | (go_at_call 33; with_reducible exact Calls.quiet_of_same (HQ1.out _)) | (go_at_call 33; with_reducible exact Calls.quiet_of_same (HQ2.out _)))
      have HROW5 := hid (show (wr.drewN nq).ownsRow w3.heap.size 49 2 (.slice A n c) n (out.flatMap rgCells) from HROW.out)
      have HB5 := hid (show Below w3.heap.size w3 (wr.drewN nq) from HB.out.trans (below_drewN _ _ _))
      have y0 : (wr.drewN nq).cell? ⟨b, off + i, none⟩ = some (.int .i32 pp) := x0
      have y1 : (wr.drewN nq).cell? ⟨b, off + i1, none⟩ = some (.int .i32 qq) := x1
      have HOMIT := hid hh
      clear HROW HB x0 x1 HBW HQ1 HQ2 hszr
      generalize wr.drewN nq = w5 at *
      obtain ⟨t0, ht0⟩ : ∃ t0, t0 = wantB how x y := ⟨_, rfl⟩
      rw [← ht0] at HWP
      have HT0 := hid ht0
      clear ht0 hh
      go_upto_region 7 with fail
      go_cut [12] (fun s12 wx => s12 = .bool (x || y) ∧ wx = w5)
      case first =>
        cases x <;> (go_wp2_with fail; go_meet; exact ⟨rfl, rfl⟩)
      case rest =>
        obtain ⟨rfl, hw⟩ := hcut
        obtain rfl : w5 = wc := hw.symm
        go_upto_block 2 with fail
        go_cut [12] (fun s12 wx => s12 = .bool t0 ∧ wx = w5)
        case first =>
          rcases HOMIT.out with rfl | rfl | rfl | rfl <;> cases x <;> cases y <;> (go_wp2_with fail; go_meet; rw [HT0.out]; exact ⟨rfl, rfl⟩)
        case rest =>
          obtain ⟨rfl, hw⟩ := hcut
          obtain rfl : w5 = wc := hw.symm
          have hqb : IntKind.i32.wrap (qq - 1) = qq - 1 := wrap32 (by omega) (by omega)
          have HQB := hid hq0
          have HPB := hid hp0
          clear hq0 hp0
          cases t0
          · have HN := hid (HGN.out.trans (congrArg (fun o => gatL W0 o (ps.drop i1)) (gatS_no HWP.out)))
            go_wp2_with fail
            go_roundg (m3 - i1)
            case measure => (have := HI1E.out; omega)
            case rel => exact ⟨i1, n, c, A, out, rfl, by go_num, hlt, Nat.le_refl _, by have := HI1E.out; omega, HNO, HROW5, HB5, HN, HE⟩
          · rcases list_snoc out with ho | ⟨o, z, ho⟩
            · subst ho
              have hn0 := HNO.out
              obtain rfl : n = 0 := hn0
              have HN := hid (HGN.out.trans (congrArg (fun o => gatL W0 o (ps.drop i1)) (gatS_nil HWP.out)))
              have hne : (Value.slice A 0 c).ownBlock ≠ some b := fun e => by have := own_ge HROW5.out b e; omega
              have HNE := hid hne
              have hwi : IntKind.i64.wrap ((i : Int) + 1) = (i1 : Int) := by rw [IntWalk.i64_in _ (by omega)]; omega
              have hi10 : (0 : Int) ≤ (i1 : Int) := by omega
              clear hne hii
              go_upto_region 17 with fail
              refine wp_region_held_drew (S := fun w' : World => w'.cell? ⟨b, off + i, none⟩ = some (.int .i32 pp)) (by kernel_rfl) y0 (fun hHeld => ?_)
              refine wpAnyH_take (i := 0) (v := ?hv1) rfl (by kernel_rfl) (by kernel_rfl) (by kernel_rfl) (fun _ _ _ h => h) (Or.inl ⟨by rfl, ?hy1⟩) (by assumption) ?hr1
              case hy1 => (intro w hSw; (try dsimp only at hSw); go_simp; try with_reducible rfl)
              (try simp only [Act.put, List.getElem_toArray, List.getElem_cons_zero, List.setIfInBounds_toArray, List.set_cons_zero, List.set_cons_succ])
              refine wpAnyH_take (i := 1) (v := ?hv2) rfl (by kernel_rfl) (by kernel_rfl) (by kernel_rfl) (fun _ _ _ h => h) (Or.inl ⟨by rfl, ?hy2⟩) (by assumption) ?hr2
              case hy2 => (intro w hSw; (try dsimp only at hSw); go_simp; try with_reducible rfl)
              (try simp only [Act.put, List.getElem_toArray, List.getElem_cons_zero, List.getElem_cons_succ, List.setIfInBounds_toArray, List.set_cons_zero, List.set_cons_succ])
              refine wpAnyH_take (i := 2) (v := ?hv3) rfl (by kernel_rfl) (by kernel_rfl) (by kernel_rfl) (fun _ _ _ h => h) (Or.inl ⟨by rfl, ?hy3⟩) (by assumption) ?hr3
              case hy3 => (intro w hSw; (try dsimp only at hSw); go_simp; try with_reducible rfl)
              (try simp only [Act.put, List.getElem_toArray, List.getElem_cons_zero, List.getElem_cons_succ, List.setIfInBounds_toArray, List.set_cons_zero, List.set_cons_succ])
              refine wpAnyH_take (i := 3) (v := undef) rfl (by kernel_rfl) (by kernel_rfl) (by kernel_rfl) (fun _ _ _ h => h) (Or.inr ⟨by rfl, rfl⟩) (by assumption) ?_
              (try simp only [Act.put, List.getElem_toArray, List.getElem_cons_zero, List.getElem_cons_succ, List.setIfInBounds_toArray, List.set_cons_zero, List.set_cons_succ])
              refine wpAnyH_take (i := 4) (v := undef) rfl (by kernel_rfl) (by kernel_rfl) (by kernel_rfl) (fun _ _ _ h => h) (Or.inr ⟨by rfl, rfl⟩) (by assumption) ?_
              (try simp only [Act.put, List.getElem_toArray, List.getElem_cons_zero, List.getElem_cons_succ, List.setIfInBounds_toArray, List.set_cons_zero, List.set_cons_succ])
              refine wpAnyH_take (i := 5) (v := undef) rfl (by kernel_rfl) (by kernel_rfl) (by kernel_rfl) (fun _ _ _ h => h) (Or.inr ⟨by rfl, rfl⟩) (by assumption) ?_
              (try simp only [Act.put, List.getElem_toArray, List.getElem_cons_zero, List.getElem_cons_succ, List.setIfInBounds_toArray, List.set_cons_zero, List.set_cons_succ])
              refine wpAnyH_take (i := 6) (v := undef) rfl (by kernel_rfl) (by kernel_rfl) (by kernel_rfl) (fun _ _ _ h => h) (Or.inr ⟨by rfl, rfl⟩) (by assumption) ?_
              (try simp only [Act.put, List.getElem_toArray, List.getElem_cons_zero, List.getElem_cons_succ, List.setIfInBounds_toArray, List.set_cons_zero, List.set_cons_succ])
              refine wpAnyH_take (i := 7) (v := undef) rfl (by kernel_rfl) (by kernel_rfl) (by kernel_rfl) (fun _ _ _ h => h) (Or.inr ⟨by rfl, rfl⟩) (by assumption) ?_
              (try simp only [Act.put, List.getElem_toArray, List.getElem_cons_zero, List.getElem_cons_succ, List.setIfInBounds_toArray, List.set_cons_zero, List.set_cons_succ])
              refine wpAnyH_take (i := 8) (v := undef) rfl (by kernel_rfl) (by kernel_rfl) (by kernel_rfl) (fun _ _ _ h => h) (Or.inr ⟨by rfl, rfl⟩) (by assumption) ?_
              (try simp only [Act.put, List.getElem_toArray, List.getElem_cons_zero, List.getElem_cons_succ, List.setIfInBounds_toArray, List.set_cons_zero, List.set_cons_succ])
              refine wpAnyH_take (i := 9) (v := undef) rfl (by kernel_rfl) (by kernel_rfl) (by kernel_rfl) (fun _ _ _ h => h) (Or.inr ⟨by rfl, rfl⟩) (by assumption) ?_
              (try simp only [Act.put, List.getElem_toArray, List.getElem_cons_zero, List.getElem_cons_succ, List.setIfInBounds_toArray, List.set_cons_zero, List.set_cons_succ])
              refine wpAnyH_take (i := 10) (v := undef) rfl (by kernel_rfl) (by kernel_rfl) (by kernel_rfl) (fun _ _ _ h => h) (Or.inr ⟨by rfl, rfl⟩) (by assumption) ?_
              (try simp only [Act.put, List.getElem_toArray, List.getElem_cons_zero, List.getElem_cons_succ, List.setIfInBounds_toArray, List.set_cons_zero, List.set_cons_succ])
              refine wpAnyH_take (i := 11) (v := undef) rfl (by kernel_rfl) (by kernel_rfl) (by kernel_rfl) (fun _ _ _ h => h) (Or.inr ⟨by rfl, rfl⟩) (by assumption) ?_
              (try simp only [Act.put, List.getElem_toArray, List.getElem_cons_zero, List.getElem_cons_succ, List.setIfInBounds_toArray, List.set_cons_zero, List.set_cons_succ])
              refine wpAnyH_take (i := 12) (v := undef) rfl (by kernel_rfl) (by kernel_rfl) (by kernel_rfl) (fun _ _ _ h => h) (Or.inr ⟨by rfl, rfl⟩) (by assumption) ?_
              (try simp only [Act.put, List.getElem_toArray, List.getElem_cons_zero, List.getElem_cons_succ, List.setIfInBounds_toArray, List.set_cons_zero, List.set_cons_succ])
              refine wpAnyH_take (i := 13) (v := undef) rfl (by kernel_rfl) (by kernel_rfl) (by kernel_rfl) (fun _ _ _ h => h) (Or.inr ⟨by rfl, rfl⟩) (by assumption) ?_
              (try simp only [Act.put, List.getElem_toArray, List.getElem_cons_zero, List.getElem_cons_succ, List.setIfInBounds_toArray, List.set_cons_zero, List.set_cons_succ])
              refine wpAnyH_take (i := 14) (v := undef) rfl (by kernel_rfl) (by kernel_rfl) (by kernel_rfl) (fun _ _ _ h => h) (Or.inr ⟨by rfl, rfl⟩) (by assumption) ?_
              (try simp only [Act.put, List.getElem_toArray, List.getElem_cons_zero, List.getElem_cons_succ, List.setIfInBounds_toArray, List.set_cons_zero, List.set_cons_succ])
              refine wpAnyH_take (i := 15) (v := ?hv4) rfl (by kernel_rfl) (by kernel_rfl) (by kernel_rfl) (fun _ _ _ h => h) (Or.inl ⟨by rfl, ?hy4⟩) (by assumption) ?hr4
              case hy4 => (intro w hSw; (try dsimp only at hSw); go_simp; try with_reducible rfl)
              (try simp only [Act.put, List.getElem_toArray, List.getElem_cons_zero, List.getElem_cons_succ, List.setIfInBounds_toArray, List.set_cons_zero, List.set_cons_succ])
              refine wpAnyH_done (by kernel_rfl) ?_ _
              clear hHeld
              have HROW6 := hid (show w5.drew.ownsRow w3.heap.size 49 2 (.slice A 0 c) 0 (([] : List Rg).flatMap rgCells) from HROW5.out)
              have HB6 := hid HB5.out.drew
              have u0 : w5.drew.cell? ⟨b, off + i, none⟩ = some (.int .i32 pp) := y0
              have u1 : w5.drew.cell? ⟨b, off + i1, none⟩ = some (.int .i32 qq) := y1
              have hszx := HB5.out.size
              go_upto_region 19 with fail
              go_region_held3 (fun w' : World => w'.cell? ⟨b, off + i, none⟩ = some (.int .i32 pp) ∧ w'.cell? ⟨b, off + i1, none⟩ = some (.int .i32 qq))
                (first
                  | go_keep
                  | (go_split_ands
                     refine ⟨?_, ?_⟩
                     · (rw [hgrow.cell_far _ (by simp; omega) (Ne.symm HNE.out)]; assumption)
                     · (rw [hgrow.cell_far _ (by simp; omega) (Ne.symm HNE.out)]; assumption)))
                ((refine step_append_any _ (by rfl) (.tmp 92) (.tmp 104) 28 (by rfl) w3.heap.size 49 i0 (.agg #[.int .i32 0, .int .i32 0]) 2 8 Try.underlying28 hi hz0 hz1 hz2 rfl (by decide) _ 0 (([] : List Rg).flatMap rgCells) (by rfl) ((HROW6.out.alloc _).drew) _ _ 1 1 [.int .i32 pp, .int .i32 (qq - 1)] (by rfl) (reads_blk2 (Blk.new w5.drew _ _)) (by simp [Value.oneCell']) (by unfold maxLen; omega) (by omega) (by simp; omega) ?_
                  intro v' w1 hown1 hgrow hat))
              have HROW1 := hid hown1
              have HB1 := hid ((HB6.out.alloc (show w3.heap.size ≤ w5.drew.heap.size from HB5.out.size) _).drew.grown hgrow (by simp; omega) (own_ge HROW5.out))
              clear hown1 hgrow hat
              obtain ⟨A', c', rfl⟩ := owns_slice HROW1.out
              go_wp2_with fail
              go_roundg (m3 - i1)
              case measure => (have := HI1E.out; omega)
              case rel => exact ⟨i1, 0 + 1, c', A', ([] : List Rg) ++ [(pp, qq - 1)], rfl, by go_num, hlt, Nat.le_refl _, by have := HI1E.out; omega, rfl, (by show World.ownsRow _ _ _ _ _ _ _; rw [flat_snoc]; exact HROW1.out), HB1, HN, HE.out.snoc (by show -1 ≤ qq - 1; have := HQB.out; omega) (by show qq - 1 ≤ _; have := HQB.out; omega)⟩
            · subst ho
              obtain ⟨g, rfl, hgB, hgs, hnl, z0, z1, zf, zst⟩ := own_last HROW5.out
              obtain ⟨m, hm⟩ : ∃ m, m = o.length := ⟨_, rfl⟩
              rw [← hm] at hnl z0 z1 zf zst
              have HM := hid hm
              obtain ⟨k1, k2⟩ := HE.out z (by simp)
              have hn0 : (0 : Int) < (n : Int) := by omega
              have hwn : IntKind.i64.wrap ((n : Int) - 1) = (m : Int) := by rw [IntWalk.i64_in _ (by omega)]; omega
              have hnd : decide (0 < n) = true := decide_eq_true (by omega)
              have hm0 : (0 : Int) ≤ (m : Int) := by omega
              have hm2 : ((m : Int)).toNat = m := by omega
              have hmn : (m : Int) < (n : Int) := by omega
              have hwi : IntKind.i64.wrap ((i : Int) + 1) = (i1 : Int) := by rw [IntWalk.i64_in _ (by omega)]; omega
              have hi10 : (0 : Int) ≤ (i1 : Int) := by omega
              have hne : (Value.slice (some ⟨g, 0, none⟩) n c).ownBlock ≠ some b := fun e => by have := own_ge HROW5.out b e; omega
              have HNE := hid hne
              have HNL := hid hnl
              have HST := hid zst
              obtain ⟨zl, zh⟩ := z
              simp only at z0 z1 k1 k2
              obtain ⟨ze, hze⟩ : ∃ ze, ze = zh + 1 := ⟨_, rfl⟩
              have hwz : IntKind.i32.wrap (zh + 1) = ze := by rw [hze]; exact wrap32 (by omega) (by omega)
              have HZE := hid hze
              clear hne hii hm hnl zst hze
              by_cases hz : ze = pp
              · have HN := hid (HGN.out.trans (congrArg (fun o => gatL W0 o (ps.drop i1)) (gatS_on HWP.out (HZE.out.symm.trans hz))))
                subst hz
                have hzd : (ze == ze) = true := beq_self_eq_true ze
                go_upto_region 17 with fail
                refine wp_region_held_drew (S := fun w' : World => w'.cell? ⟨g, m * 2 + 1, none⟩ = some (.int .i32 zh) ∧ w'.cell? ⟨b, off + i, none⟩ = some (.int .i32 ze)) (by kernel_rfl) ⟨z1, y0⟩ (fun hHeld => ?_)
                refine wpAnyH_take (i := 0) (v := ?hv5) rfl (by kernel_rfl) (by kernel_rfl) (by kernel_rfl) (fun _ _ _ h => h) (Or.inl ⟨by rfl, ?hy5⟩) (by assumption) ?hr5
                case hy5 => (intro w hSw; (try dsimp only at hSw); go_simp; try with_reducible rfl)
                (try simp only [Act.put, List.getElem_toArray, List.getElem_cons_zero, List.setIfInBounds_toArray, List.set_cons_zero, List.set_cons_succ])
                refine wpAnyH_take (i := 1) (v := ?hv6) rfl (by kernel_rfl) (by kernel_rfl) (by kernel_rfl) (fun _ _ _ h => h) (Or.inl ⟨by rfl, ?hy6⟩) (by assumption) ?hr6
                case hy6 => (intro w hSw; (try dsimp only at hSw); go_simp; try with_reducible rfl)
                (try simp only [Act.put, List.getElem_toArray, List.getElem_cons_zero, List.getElem_cons_succ, List.setIfInBounds_toArray, List.set_cons_zero, List.set_cons_succ])
                try simp only [hnd]
                refine wpAnyH_take (i := 2) (v := ?hv7) rfl (by kernel_rfl) (by kernel_rfl) (by kernel_rfl) (fun _ _ _ h => h) (Or.inl ⟨by rfl, ?hy7⟩) (by assumption) ?hr7
                case hy7 => (intro w hSw; (try dsimp only at hSw); go_simp; try with_reducible rfl)
                (try simp only [Act.put, List.getElem_toArray, List.getElem_cons_zero, List.getElem_cons_succ, List.setIfInBounds_toArray, List.set_cons_zero, List.set_cons_succ])
                refine wpAnyH_take (i := 3) (v := ?hv8) rfl (by kernel_rfl) (by kernel_rfl) (by kernel_rfl) (fun _ _ _ h => h) (Or.inl ⟨by rfl, ?hy8⟩) (by assumption) ?hr8
                case hy8 => (intro w hSw; (try dsimp only at hSw); go_simp; try with_reducible rfl)
                (try simp only [Act.put, List.getElem_toArray, List.getElem_cons_zero, List.getElem_cons_succ, List.setIfInBounds_toArray, List.set_cons_zero, List.set_cons_succ])
                refine wpAnyH_take (i := 4) (v := ?hv9) rfl (by kernel_rfl) (by kernel_rfl) (by kernel_rfl) (fun _ _ _ h => h) (Or.inl ⟨by rfl, ?hy9⟩) (by assumption) ?hr9
                case hy9 => (intro w hSw; (try dsimp only at hSw); go_simp; try with_reducible rfl)
                (try simp only [Act.put, List.getElem_toArray, List.getElem_cons_zero, List.getElem_cons_succ, List.setIfInBounds_toArray, List.set_cons_zero, List.set_cons_succ])
                refine wpAnyH_take (i := 5) (v := ?hv10) rfl (by kernel_rfl) (by kernel_rfl) (by kernel_rfl) (fun _ _ _ h => h) (Or.inl ⟨by rfl, ?hy10⟩) (by assumption) ?hr10
                case hy10 => (intro w hSw; (try dsimp only at hSw); go_simp; try with_reducible rfl)
                (try simp only [Act.put, List.getElem_toArray, List.getElem_cons_zero, List.getElem_cons_succ, List.setIfInBounds_toArray, List.set_cons_zero, List.set_cons_succ])
                try simp only [hwn]
                refine wpAnyH_take (i := 6) (v := ?hv11) rfl (by kernel_rfl) (by kernel_rfl) (by kernel_rfl) (fun _ _ _ h => h) (Or.inl ⟨by rfl, ?hy11⟩) (by assumption) ?hr11
                case hy11 => (intro w hSw; (try dsimp only at hSw); go_simp; try with_reducible rfl)
                (try simp only [Act.put, List.getElem_toArray, List.getElem_cons_zero, List.getElem_cons_succ, List.setIfInBounds_toArray, List.set_cons_zero, List.set_cons_succ])
                refine wpAnyH_take (i := 7) (v := ?hv12) rfl (by kernel_rfl) (by kernel_rfl) (by kernel_rfl) (fun _ _ _ h => h) (Or.inl ⟨by rfl, ?hy12⟩) (by assumption) ?hr12
                case hy12 => (intro w hSw; (try dsimp only at hSw); go_simp; try with_reducible rfl)
                (try simp only [Act.put, List.getElem_toArray, List.getElem_cons_zero, List.getElem_cons_succ, List.setIfInBounds_toArray, List.set_cons_zero, List.set_cons_succ])
                refine wpAnyH_take (i := 8) (v := ?hv13) rfl (by kernel_rfl) (by kernel_rfl) (by kernel_rfl) (fun _ _ _ h => h) (Or.inl ⟨by rfl, ?hy13⟩) (by assumption) ?hr13
                case hy13 => (intro w hSw; (try dsimp only at hSw); go_simp; try with_reducible rfl)
                (try simp only [Act.put, List.getElem_toArray, List.getElem_cons_zero, List.getElem_cons_succ, List.setIfInBounds_toArray, List.set_cons_zero, List.set_cons_succ])
                refine wpAnyH_take (i := 9) (v := ?hv14) rfl (by kernel_rfl) (by kernel_rfl) (by kernel_rfl) (fun _ _ _ h => h) (Or.inl ⟨by rfl, ?hy14⟩) (by assumption) ?hr14
                case hy14 => (intro w hSw; (try dsimp only at hSw); go_simp; try with_reducible rfl)
                (try simp only [Act.put, List.getElem_toArray, List.getElem_cons_zero, List.getElem_cons_succ, List.setIfInBounds_toArray, List.set_cons_zero, List.set_cons_succ])
                try simp only [hwz]
                refine wpAnyH_take (i := 10) (v := ?hv15) rfl (by kernel_rfl) (by kernel_rfl) (by kernel_rfl) (fun _ _ _ h => h) (Or.inl ⟨by rfl, ?hy15⟩) (by assumption) ?hr15
                case hy15 => (intro w hSw; (try dsimp only at hSw); go_simp; try with_reducible rfl)
                (try simp only [Act.put, List.getElem_toArray, List.getElem_cons_zero, List.getElem_cons_succ, List.setIfInBounds_toArray, List.set_cons_zero, List.set_cons_succ])
                refine wpAnyH_take (i := 11) (v := ?hv16) rfl (by kernel_rfl) (by kernel_rfl) (by kernel_rfl) (fun _ _ _ h => h) (Or.inl ⟨by rfl, ?hy16⟩) (by assumption) ?hr16
                case hy16 => (intro w hSw; (try dsimp only at hSw); go_simp; try with_reducible rfl)
                (try simp only [Act.put, List.getElem_toArray, List.getElem_cons_zero, List.getElem_cons_succ, List.setIfInBounds_toArray, List.set_cons_zero, List.set_cons_succ])
                refine wpAnyH_take (i := 12) (v := ?hv17) rfl (by kernel_rfl) (by kernel_rfl) (by kernel_rfl) (fun _ _ _ h => h) (Or.inl ⟨by rfl, ?hy17⟩) (by assumption) ?hr17
                case hy17 => (intro w hSw; (try dsimp only at hSw); go_simp; try with_reducible rfl)
                (try simp only [Act.put, List.getElem_toArray, List.getElem_cons_zero, List.getElem_cons_succ, List.setIfInBounds_toArray, List.set_cons_zero, List.set_cons_succ])
                refine wpAnyH_take (i := 13) (v := ?hv18) rfl (by kernel_rfl) (by kernel_rfl) (by kernel_rfl) (fun _ _ _ h => h) (Or.inl ⟨by rfl, ?hy18⟩) (by assumption) ?hr18
                case hy18 => (intro w hSw; (try dsimp only at hSw); go_simp; try with_reducible rfl)
                (try simp only [Act.put, List.getElem_toArray, List.getElem_cons_zero, List.getElem_cons_succ, List.setIfInBounds_toArray, List.set_cons_zero, List.set_cons_succ])
                refine wpAnyH_take (i := 14) (v := ?hv19) rfl (by kernel_rfl) (by kernel_rfl) (by kernel_rfl) (fun _ _ _ h => h) (Or.inl ⟨by rfl, ?hy19⟩) (by assumption) ?hr19
                case hy19 => (intro w hSw; (try dsimp only at hSw); go_simp; try with_reducible rfl)
                (try simp only [Act.put, List.getElem_toArray, List.getElem_cons_zero, List.getElem_cons_succ, List.setIfInBounds_toArray, List.set_cons_zero, List.set_cons_succ])
                try simp only [hzd]
                refine wpAnyH_take (i := 15) (v := ?hv20) rfl (by kernel_rfl) (by kernel_rfl) (by kernel_rfl) (fun _ _ _ h => h) (Or.inl ⟨by rfl, ?hy20⟩) (by assumption) ?hr20
                case hy20 => (intro w hSw; (try dsimp only at hSw); go_simp; try with_reducible rfl)
                (try simp only [Act.put, List.getElem_toArray, List.getElem_cons_zero, List.getElem_cons_succ, List.setIfInBounds_toArray, List.set_cons_zero, List.set_cons_succ])
                refine wpAnyH_done (by kernel_rfl) ?_ _
                clear hHeld
                have HROW6 := hid (show w5.drew.ownsRow w3.heap.size 49 2 (.slice (some ⟨g, 0, none⟩) n c) n ((o ++ [(zl, zh)]).flatMap rgCells) from HROW5.out)
                have HB6 := hid HB5.out.drew
                have u0 : w5.drew.cell? ⟨b, off + i, none⟩ = some (.int .i32 ze) := y0
                have u1 : w5.drew.cell? ⟨b, off + i1, none⟩ = some (.int .i32 qq) := y1
                have HST6 := hid (fun y => show (w5.drew.setCell _ _).ownsRow _ _ _ _ _ _ from HST.out y)
                have uf : w5.drew.frozen? ⟨g, m * 2 + 1, none⟩ = false := zf
                go_wp2_with fail
                go_roundg (m3 - i1)
                case measure => (have := HI1E.out; omega)
                case rel => exact ⟨i1, n, c, some ⟨g, 0, none⟩, o ++ [(zl, qq - 1)], rfl, by go_num, hlt, Nat.le_refl _, by have := HI1E.out; omega, (by show n = _; rw [HNO.out, List.length_append, List.length_append]; rfl), HST6.out _, HB6.out.setCell (p := ⟨g, m * 2 + 1, none⟩) hgB _, HN, HE.out.init.snoc (by show -1 ≤ qq - 1; have := HQB.out; omega) (by show qq - 1 ≤ _; have := HQB.out; omega)⟩
              · have HN := hid (HGN.out.trans (congrArg (fun o => gatL W0 o (ps.drop i1)) (gatS_new HWP.out (fun e => hz (HZE.out.trans e)))))
                have hzd : (ze == pp) = false := by simpa using hz
                clear hz
                go_upto_region 17 with fail
                refine wp_region_held_drew (S := fun w' : World => w'.cell? ⟨g, m * 2 + 1, none⟩ = some (.int .i32 zh) ∧ w'.cell? ⟨b, off + i, none⟩ = some (.int .i32 pp)) (by kernel_rfl) ⟨z1, y0⟩ (fun hHeld => ?_)
                refine wpAnyH_take (i := 0) (v := ?hv21) rfl (by kernel_rfl) (by kernel_rfl) (by kernel_rfl) (fun _ _ _ h => h) (Or.inl ⟨by rfl, ?hy21⟩) (by assumption) ?hr21
                case hy21 => (intro w hSw; (try dsimp only at hSw); go_simp; try with_reducible rfl)
                (try simp only [Act.put, List.getElem_toArray, List.getElem_cons_zero, List.setIfInBounds_toArray, List.set_cons_zero, List.set_cons_succ])
                refine wpAnyH_take (i := 1) (v := ?hv22) rfl (by kernel_rfl) (by kernel_rfl) (by kernel_rfl) (fun _ _ _ h => h) (Or.inl ⟨by rfl, ?hy22⟩) (by assumption) ?hr22
                case hy22 => (intro w hSw; (try dsimp only at hSw); go_simp; try with_reducible rfl)
                (try simp only [Act.put, List.getElem_toArray, List.getElem_cons_zero, List.getElem_cons_succ, List.setIfInBounds_toArray, List.set_cons_zero, List.set_cons_succ])
                try simp only [hnd]
                refine wpAnyH_take (i := 2) (v := ?hv23) rfl (by kernel_rfl) (by kernel_rfl) (by kernel_rfl) (fun _ _ _ h => h) (Or.inl ⟨by rfl, ?hy23⟩) (by assumption) ?hr23
                case hy23 => (intro w hSw; (try dsimp only at hSw); go_simp; try with_reducible rfl)
                (try simp only [Act.put, List.getElem_toArray, List.getElem_cons_zero, List.getElem_cons_succ, List.setIfInBounds_toArray, List.set_cons_zero, List.set_cons_succ])
                refine wpAnyH_take (i := 3) (v := ?hv24) rfl (by kernel_rfl) (by kernel_rfl) (by kernel_rfl) (fun _ _ _ h => h) (Or.inl ⟨by rfl, ?hy24⟩) (by assumption) ?hr24
                case hy24 => (intro w hSw; (try dsimp only at hSw); go_simp; try with_reducible rfl)
                (try simp only [Act.put, List.getElem_toArray, List.getElem_cons_zero, List.getElem_cons_succ, List.setIfInBounds_toArray, List.set_cons_zero, List.set_cons_succ])
                refine wpAnyH_take (i := 4) (v := ?hv25) rfl (by kernel_rfl) (by kernel_rfl) (by kernel_rfl) (fun _ _ _ h => h) (Or.inl ⟨by rfl, ?hy25⟩) (by assumption) ?hr25
                case hy25 => (intro w hSw; (try dsimp only at hSw); go_simp; try with_reducible rfl)
                (try simp only [Act.put, List.getElem_toArray, List.getElem_cons_zero, List.getElem_cons_succ, List.setIfInBounds_toArray, List.set_cons_zero, List.set_cons_succ])
                refine wpAnyH_take (i := 5) (v := ?hv26) rfl (by kernel_rfl) (by kernel_rfl) (by kernel_rfl) (fun _ _ _ h => h) (Or.inl ⟨by rfl, ?hy26⟩) (by assumption) ?hr26
                case hy26 => (intro w hSw; (try dsimp only at hSw); go_simp; try with_reducible rfl)
                (try simp only [Act.put, List.getElem_toArray, List.getElem_cons_zero, List.getElem_cons_succ, List.setIfInBounds_toArray, List.set_cons_zero, List.set_cons_succ])
                try simp only [hwn]
                refine wpAnyH_take (i := 6) (v := ?hv27) rfl (by kernel_rfl) (by kernel_rfl) (by kernel_rfl) (fun _ _ _ h => h) (Or.inl ⟨by rfl, ?hy27⟩) (by assumption) ?hr27
                case hy27 => (intro w hSw; (try dsimp only at hSw); go_simp; try with_reducible rfl)
                (try simp only [Act.put, List.getElem_toArray, List.getElem_cons_zero, List.getElem_cons_succ, List.setIfInBounds_toArray, List.set_cons_zero, List.set_cons_succ])
                refine wpAnyH_take (i := 7) (v := ?hv28) rfl (by kernel_rfl) (by kernel_rfl) (by kernel_rfl) (fun _ _ _ h => h) (Or.inl ⟨by rfl, ?hy28⟩) (by assumption) ?hr28
                case hy28 => (intro w hSw; (try dsimp only at hSw); go_simp; try with_reducible rfl)
                (try simp only [Act.put, List.getElem_toArray, List.getElem_cons_zero, List.getElem_cons_succ, List.setIfInBounds_toArray, List.set_cons_zero, List.set_cons_succ])
                refine wpAnyH_take (i := 8) (v := ?hv29) rfl (by kernel_rfl) (by kernel_rfl) (by kernel_rfl) (fun _ _ _ h => h) (Or.inl ⟨by rfl, ?hy29⟩) (by assumption) ?hr29
                case hy29 => (intro w hSw; (try dsimp only at hSw); go_simp; try with_reducible rfl)
                (try simp only [Act.put, List.getElem_toArray, List.getElem_cons_zero, List.getElem_cons_succ, List.setIfInBounds_toArray, List.set_cons_zero, List.set_cons_succ])
                refine wpAnyH_take (i := 9) (v := ?hv30) rfl (by kernel_rfl) (by kernel_rfl) (by kernel_rfl) (fun _ _ _ h => h) (Or.inl ⟨by rfl, ?hy30⟩) (by assumption) ?hr30
                case hy30 => (intro w hSw; (try dsimp only at hSw); go_simp; try with_reducible rfl)
                (try simp only [Act.put, List.getElem_toArray, List.getElem_cons_zero, List.getElem_cons_succ, List.setIfInBounds_toArray, List.set_cons_zero, List.set_cons_succ])
                try simp only [hwz]
                refine wpAnyH_take (i := 10) (v := ?hv31) rfl (by kernel_rfl) (by kernel_rfl) (by kernel_rfl) (fun _ _ _ h => h) (Or.inl ⟨by rfl, ?hy31⟩) (by assumption) ?hr31
                case hy31 => (intro w hSw; (try dsimp only at hSw); go_simp; try with_reducible rfl)
                (try simp only [Act.put, List.getElem_toArray, List.getElem_cons_zero, List.getElem_cons_succ, List.setIfInBounds_toArray, List.set_cons_zero, List.set_cons_succ])
                refine wpAnyH_take (i := 11) (v := ?hv32) rfl (by kernel_rfl) (by kernel_rfl) (by kernel_rfl) (fun _ _ _ h => h) (Or.inl ⟨by rfl, ?hy32⟩) (by assumption) ?hr32
                case hy32 => (intro w hSw; (try dsimp only at hSw); go_simp; try with_reducible rfl)
                (try simp only [Act.put, List.getElem_toArray, List.getElem_cons_zero, List.getElem_cons_succ, List.setIfInBounds_toArray, List.set_cons_zero, List.set_cons_succ])
                refine wpAnyH_take (i := 12) (v := ?hv33) rfl (by kernel_rfl) (by kernel_rfl) (by kernel_rfl) (fun _ _ _ h => h) (Or.inl ⟨by rfl, ?hy33⟩) (by assumption) ?hr33
                case hy33 => (intro w hSw; (try dsimp only at hSw); go_simp; try with_reducible rfl)
                (try simp only [Act.put, List.getElem_toArray, List.getElem_cons_zero, List.getElem_cons_succ, List.setIfInBounds_toArray, List.set_cons_zero, List.set_cons_succ])
                refine wpAnyH_take (i := 13) (v := ?hv34) rfl (by kernel_rfl) (by kernel_rfl) (by kernel_rfl) (fun _ _ _ h => h) (Or.inl ⟨by rfl, ?hy34⟩) (by assumption) ?hr34
                case hy34 => (intro w hSw; (try dsimp only at hSw); go_simp; try with_reducible rfl)
                (try simp only [Act.put, List.getElem_toArray, List.getElem_cons_zero, List.getElem_cons_succ, List.setIfInBounds_toArray, List.set_cons_zero, List.set_cons_succ])
                refine wpAnyH_take (i := 14) (v := ?hv35) rfl (by kernel_rfl) (by kernel_rfl) (by kernel_rfl) (fun _ _ _ h => h) (Or.inl ⟨by rfl, ?hy35⟩) (by assumption) ?hr35
                case hy35 => (intro w hSw; (try dsimp only at hSw); go_simp; try with_reducible rfl)
                (try simp only [Act.put, List.getElem_toArray, List.getElem_cons_zero, List.getElem_cons_succ, List.setIfInBounds_toArray, List.set_cons_zero, List.set_cons_succ])
                try simp only [hzd]
                refine wpAnyH_take (i := 15) (v := ?hv36) rfl (by kernel_rfl) (by kernel_rfl) (by kernel_rfl) (fun _ _ _ h => h) (Or.inl ⟨by rfl, ?hy36⟩) (by assumption) ?hr36
                case hy36 => (intro w hSw; (try dsimp only at hSw); go_simp; try with_reducible rfl)
                (try simp only [Act.put, List.getElem_toArray, List.getElem_cons_zero, List.getElem_cons_succ, List.setIfInBounds_toArray, List.set_cons_zero, List.set_cons_succ])
                refine wpAnyH_done (by kernel_rfl) ?_ _
                clear hHeld
                have HROW6 := hid (show w5.drew.ownsRow w3.heap.size 49 2 (.slice (some ⟨g, 0, none⟩) n c) n ((o ++ [(zl, zh)]).flatMap rgCells) from HROW5.out)
                have HB6 := hid HB5.out.drew
                have u0 : w5.drew.cell? ⟨b, off + i, none⟩ = some (.int .i32 pp) := y0
                have u1 : w5.drew.cell? ⟨b, off + i1, none⟩ = some (.int .i32 qq) := y1
                have hszx := HB5.out.size
                go_upto_region 19 with fail
                go_region_held3 (fun w' : World => w'.cell? ⟨b, off + i, none⟩ = some (.int .i32 pp) ∧ w'.cell? ⟨b, off + i1, none⟩ = some (.int .i32 qq))
                  (first
                    | go_keep
                    | (go_split_ands
                       refine ⟨?_, ?_⟩
                       · (rw [hgrow.cell_far _ (by simp; omega) (Ne.symm HNE.out)]; assumption)
                       · (rw [hgrow.cell_far _ (by simp; omega) (Ne.symm HNE.out)]; assumption)))
                  ((refine step_append_any _ (by rfl) (.tmp 92) (.tmp 104) 28 (by rfl) w3.heap.size 49 i0 (.agg #[.int .i32 0, .int .i32 0]) 2 8 Try.underlying28 hi hz0 hz1 hz2 rfl (by decide) _ n ((o ++ [(zl, zh)]).flatMap rgCells) (by rfl) ((HROW6.out.alloc _).drew) _ _ 1 1 [.int .i32 pp, .int .i32 (qq - 1)] (by rfl) (reads_blk2 (Blk.new w5.drew _ _)) (by simp [Value.oneCell']) (by unfold maxLen; omega) (by omega) (by simp; omega) ?_
                    intro v' w1 hown1 hgrow hat))
                have HROW1 := hid hown1
                have HB1 := hid ((HB6.out.alloc (show w3.heap.size ≤ w5.drew.heap.size from HB5.out.size) _).drew.grown hgrow (by simp; omega) (own_ge HROW5.out))
                clear hown1 hgrow hat
                obtain ⟨A', c', rfl⟩ := owns_slice HROW1.out
                go_wp2_with fail
                go_roundg (m3 - i1)
                case measure => (have := HI1E.out; omega)
                case rel => exact ⟨i1, n + 1, c', A', (o ++ [(zl, zh)]) ++ [(pp, qq - 1)], rfl, by go_num, hlt, Nat.le_refl _, by have := HI1E.out; omega, (by show n + 1 = _; rw [List.length_append, ← HNO.out]; rfl), (by show World.ownsRow _ _ _ _ _ _ _; rw [flat_snoc]; exact HROW1.out), HB1, HN, HE.out.snoc (by show -1 ≤ qq - 1; have := HQB.out; omega) (by show qq - 1 ≤ _; have := HQB.out; omega)⟩
    · have hle : ¬ (i1 : Int) < (m3 : Int) := by omega
      have hlast : ps.drop i = [ps[i]'(by have := HN3.out; omega)] := by
        have := HN3.out
        rw [List.drop_eq_getElem_cons (by omega), List.drop_eq_nil_of_le (by omega)]
      have HF := hid (show gatL W0 [] ps = out by rw [HG.out, hlast, gatL_one])
      clear hlast hi1 hlt hg
      go_wp2_with fail
      go_ret
      refine ⟨_, _, _, rfl, ?_, HBW.out⟩
      rw [← HPS.out, HF.out]
      exact RR.of_own HROW.out
end Go.Proofs.Ytbkjanlkklmleaa
