/- Chapter 02: the document's insert: the walk. (Printed by wip/gen/rgf.py.) -/
import Derived.Test.YtbkjanlkklmleaaRgE
namespace Go.Proofs.Ytbkjanlkklmleaa
open Go.RowKit
open Go.Lib (hid)
set_option linter.unusedVariables false
set_option maxRecDepth 100000

/-- A row of numbers of 32 bits. -/
def RI (w : World) (a : Option Addr) (n cap : Nat) (l : List Int) : Prop :=
  n = l.length ∧ n ≤ cap ∧ cap ≤ 9223372036854775807 ∧ (0 < n → ∃ b off, a = some ⟨b, off, none⟩ ∧ b < w.heap.size ∧ ∀ j (h : j < l.length), w.cell? ⟨b, off + j, none⟩ = some (.int .i32 l[j]))
theorem RI.below {w w' : World} {a : Option Addr} {n cap B : Nat} {l : List Int} (h : RI w a n cap l) (hb : Below B w w') (hB : w.heap.size ≤ B) : RI w' a n cap l :=
  ⟨h.1, h.2.1, h.2.2.1, fun hn => by
    obtain ⟨b, off, e, hbl, hz⟩ := h.2.2.2 hn
    exact ⟨b, off, e, Nat.lt_of_lt_of_le hbl hb.size, fun j hj => (hb.cell (p := ⟨b, _, none⟩) (by show b < B; omega)).trans (hz j hj)⟩⟩
def i32s (l : List Int) : List Value := l.map (Value.int .i32)
theorem i32s_len (l : List Int) : (i32s l).length = l.length := by simp [i32s]
theorem i32s_append (l k : List Int) : i32s (l ++ k) = i32s l ++ i32s k := by simp [i32s]
theorem i32s_one (l : List Int) : ∀ u ∈ i32s l, u.oneCell' = true := by
  intro u hu
  obtain ⟨x, _, rfl⟩ := List.mem_map.1 hu
  rfl
theorem RI.of_own {W : World} {B n c : Nat} {e : TypeId} {A : Option Addr} {l : List Int} (h : W.ownsRow B e 1 (.slice A n c) n (i32s l)) : RI W A n c l := by
  have hl := h.1
  rw [i32s_len, Nat.mul_one] at hl
  obtain ⟨a, c', hv, h1, h2, hc⟩ := owns_form h
  injection hv with hA _ hcc
  subst hA hcc
  refine ⟨hl.symm, h1, by unfold maxLen at h2; omega, fun hn => ?_⟩
  obtain ⟨g, rfl, _, hg, hcell⟩ := hc hn
  refine ⟨g, 0, rfl, hg, fun j hj => ?_⟩
  rw [Nat.zero_add, hcell j (by omega)]
  simp [i32s, hj]
theorem RI.reads {w : World} {b off n cap : Nat} {l : List Int} (h : RI w (some ⟨b, off, none⟩) n cap l) (hb : b < w.heap.size) (i m : Nat) (him : i + m = n) (c : Nat) (hc : n ≤ c) : Reads w w.heap.size 1 (some ⟨b, if c = i then off else off + i, none⟩) m (i32s (l.drop i)) := by
  have hn := h.1
  refine ⟨by rw [i32s_len, List.length_drop]; omega, fun hm => ⟨_, rfl, hb, fun j u hu => ?_⟩⟩
  obtain ⟨b', off', e, _, hz⟩ := h.2.2.2 (by omega)
  injection e with e
  injection e with e1 e2 _
  subst e1 e2
  have hj : j < l.length - i := by
    have := (List.getElem?_eq_some_iff.1 hu).1
    rwa [i32s_len, List.length_drop] at this
  rw [if_neg (by omega), show (Addr.add ⟨b, off + i, none⟩ j) = ⟨b, off + i + j, none⟩ by unfold Addr.add; split <;> simp_all, Nat.add_assoc, hz (i + j) (by omega), ← hu]
  simp [i32s, List.getElem?_drop, show i + j < l.length by omega]
theorem RI.head {w : World} {b off n cap : Nat} {l : List Int} (h : RI w (some ⟨b, off, none⟩) n cap l) (hb : b < w.heap.size) (m : Nat) (hm : m ≤ n) : Reads w w.heap.size 1 (some ⟨b, off, none⟩) m (i32s (l.take m)) := by
  have hn := h.1
  refine ⟨by rw [i32s_len, List.length_take]; omega, fun hm => ⟨_, rfl, hb, fun j u hu => ?_⟩⟩
  obtain ⟨b', off', e, _, hz⟩ := h.2.2.2 (by omega)
  injection e with e
  injection e with e1 e2 _
  subst e1 e2
  have hj : j < m ∧ j < l.length := by
    have := (List.getElem?_eq_some_iff.1 hu).1
    rw [i32s_len, List.length_take] at this
    omega
  rw [show (Addr.add ⟨b, off, none⟩ j) = ⟨b, off + j, none⟩ by unfold Addr.add; split <;> simp_all, hz j hj.2, ← hu]
  simp [i32s, hj.1, hj.2]
theorem reads_i1 {w : World} {q : Nat} {t : TypeId} {x : Value} (h : Blk w q t #[x]) : Reads w w.heap.size 1 (some ⟨q, 0, none⟩) 1 [x] := by
  refine ⟨rfl, fun _ => ⟨_, rfl, h.lt, fun j u hu => ?_⟩⟩
  have e : (Addr.add ⟨q, 0, none⟩ j) = ⟨q, j, none⟩ := by unfold Addr.add; split <;> simp_all
  rw [e, h.cell j]
  simpa using hu
/-- Numbers that a call returned. -/
def RetI (w : World) (e : Ending) (w' : World) (l : List Int) : Prop := ∃ a n c, e = .returned (.slice a n c) ∧ RI w' a n c l ∧ Below w.heap.size w w'
theorem info_i32 : (Try.prog.info? 21).map (fun i => (i.zero, i.size, i.bytes)) = some (some (.int .i32 0), 1, 4) := by kernel_rfl
theorem slice_hd (b off n cap k : Nat) (hk : k ≤ cap) (hc : 0 < cap) (W : World) : (Instr.slice 37 (.slice (some ⟨b, off, none⟩) n cap) none (some (.int .i64 k)) none).run Try.prog W = .ok (.slice (some ⟨b, off, none⟩) k cap) W := by
  rw [run_slice_h (P := Try.prog) W 37 _ n cap rfl .i64 k (by omega) (by omega)]
  have hs : (sizeOf (Try.prog.elem 37)).run Try.prog W = .ok 1 W := by go_simp
  rw [hs]
  have h0 : ¬ cap = 0 := by omega
  simp [Result.andThen, sliced, h0, Addr.add]
theorem slice_tl (b off n cap k : Nat) (hk : k ≤ n) (hc : n ≤ cap) (W : World) : (Instr.slice 37 (.slice (some ⟨b, off, none⟩) n cap) (some (.int .i64 k)) none none).run Try.prog W = .ok (.slice (some ⟨b, if cap = k then off else off + k, none⟩) (n - k) (cap - k)) W := by
  rw [run_slice_l (P := Try.prog) W 37 _ n cap rfl .i64 k (by omega) (by omega)]
  have hs : (sizeOf (Try.prog.elem 37)).run Try.prog W = .ok 1 W := by go_simp
  rw [hs]
  by_cases h : cap = k
  · simp [Result.andThen, sliced, h]
  · simp [Result.andThen, sliced, h, Addr.add]

set_option maxRecDepth 100000 in
set_option maxHeartbeats 4000000 in
theorem insert_any (a : Option Addr) (n cap : Nat) (l : List Int) (r : Int) (w : World) (hl : RI w a n cap l) (hn : n ≤ 4000000) (h0 : 0 < n) :
    Calls Try.prog 54 #[.slice a n cap, .int .i32 r] w fun e w' => RetI w e w' (insL l r) := by
  obtain ⟨i0, hi, hz0, hz1, hz2⟩ := info_parts info_i32
  obtain ⟨b, off, rfl, hbl, hc⟩ := hl.2.2.2 h0
  have HL := hid hl
  have HN := hid hl.1
  have HC := hid hc
  have hcap := hl.2.1
  have hcap2 := hl.2.2.1
  clear hl hc
  go_enter Try.func54, Try.ntmps54
  go_wp2_with fail
  go_loopg [5] n (fun kx s5 wr => ∃ k : Nat, s5 = .int .i64 k ∧ k ≤ n ∧ n - k ≤ kx ∧ w = wr ∧ Hid (∀ j (hj : j < k), ∃ h : j < l.length, l[j] < r))
  case atStart => exact ⟨0, rfl, Nat.zero_le _, by omega, rfl, fun j hj => absurd hj (Nat.not_lt_zero _)⟩
  case round =>
    obtain ⟨k, rfl, hk, hg, rfl, A⟩ := hrel
    by_cases hlt : k < n
    · have hlt' : (k : Int) < (n : Int) := by omega
      have hkl : k < l.length := by have := HN.out; omega
      have x0 := HC.out k hkl
      have hins := insL_at r l
      have hst : ¬ l[k] < r → lessN l r = k := fun h => lessN_is (by omega) (fun j hj => (A.out j hj).2) (fun _ => h)
      have hnx : l[k] < r → ∀ j (hj : j < k + 1), ∃ h : j < l.length, l[j] < r := fun h j hj => by
        rcases Nat.lt_or_ge j k with q | q
        · exact A.out j q
        · obtain rfl : j = k := by omega
          exact ⟨hkl, h⟩
      have hfin : ¬ l[k] < r → insL l r = if l[k] = r then l else l.take k ++ r :: l.drop k := fun h => by
        have e := hst h
        rw [hins, dif_pos (by rw [e]; exact hkl)]
        simp only [e]
      generalize l[k] = x at *
      have HNX := hid hnx
      have HFIN := hid hfin
      clear hst hnx hfin hins
      by_cases hx : x < r
      · have HN2 := hid (HNX.out hx)
        go_wp2_with fail
        go_roundg (n - (k + 1))
        case measure => omega
        case rel => exact ⟨k + 1, by go_num, by omega, Nat.le_refl _, rfl, HN2⟩
      · have HF := hid (HFIN.out hx)
        by_cases he : x = r
        · subst he
          have HR := hid (show insL l x = l by rw [HF.out, if_pos rfl])
          have hxx : (x == x) = true := by simp
          have hxx2 : ¬ x < x := by omega
          clear hx
          go_wp2_with fail
          go_ret
          refine ⟨_, _, _, rfl, ?_, Below.refl _ _⟩
          rw [HR.out]
          exact HL.out
        · have HR := hid (show insL l r = l.take k ++ r :: l.drop k by rw [HF.out, if_neg he])
          have hxx : (x == r) = false := by simpa using he
          have hxx2 : ¬ x < r := hx
          clear he hx
          go_upto_region 6 with fail
          have h1 := slice_hd b off n cap k (by omega) (by omega)
          have h2 := slice_tl b off n cap k (by omega) hcap
          obtain ⟨o2, ho2⟩ : ∃ o, o = if cap = k then off else off + k := ⟨_, rfl⟩
          simp only [← ho2] at h2
          have HOE := hid ho2
          clear ho2
          have HBd := hid (fun (o : Obj) => ((Below.refl w.heap.size w).alloc (Nat.le_refl _) o).drew)
          have hsz1 : ∀ o : Obj, (w.alloc o).drew.heap.size = w.heap.size + 1 := fun o => by simp
          refine wp_region_held_drew (S := fun _ => True) (by kernel_rfl) trivial (fun hHeld => ?_)
          refine wpAnyH_take (i := 1) (v := ?hv1) rfl (by kernel_rfl) (by kernel_rfl) (by kernel_rfl) (fun _ _ _ h => h) (Or.inl ⟨by rfl, ?hy1⟩) (by assumption) ?hr1
          case hy1 => (intro w hSw; (try dsimp only at hSw); go_simp; try with_reducible rfl)
          (try simp only [Act.put, List.getElem_toArray, List.getElem_cons_zero, List.getElem_cons_succ, List.setIfInBounds_toArray, List.set_cons_zero, List.set_cons_succ])
          refine wpAnyH_take (i := 2) (v := ?hv2) rfl (by kernel_rfl) (by kernel_rfl) (by kernel_rfl) (fun _ _ _ h => h) (Or.inl ⟨by rfl, ?hy2⟩) (by assumption) ?hr2
          case hy2 => (intro w hSw; (try dsimp only at hSw); go_simp; try with_reducible rfl)
          (try simp only [Act.put, List.getElem_toArray, List.getElem_cons_zero, List.getElem_cons_succ, List.setIfInBounds_toArray, List.set_cons_zero, List.set_cons_succ])
          refine wpAnyH_take (i := 3) (v := ?hv3) rfl (by kernel_rfl) (by kernel_rfl) (by kernel_rfl) (fun _ _ _ h => h) (Or.inl ⟨by rfl, ?hy3⟩) (by assumption) ?hr3
          case hy3 => (intro w hSw; (try dsimp only at hSw); go_simp; try with_reducible rfl)
          (try simp only [Act.put, List.getElem_toArray, List.getElem_cons_zero, List.getElem_cons_succ, List.setIfInBounds_toArray, List.set_cons_zero, List.set_cons_succ])
          refine wpAnyH_take (i := 5) (v := ?hv4) rfl (by kernel_rfl) (by kernel_rfl) (by kernel_rfl) (fun _ _ _ h => h) (Or.inl ⟨by rfl, ?hy4⟩) (by assumption) ?hr4
          case hy4 => (intro w hSw; (try dsimp only at hSw); go_simp; try with_reducible rfl)
          (try simp only [Act.put, List.getElem_toArray, List.getElem_cons_zero, List.getElem_cons_succ, List.setIfInBounds_toArray, List.set_cons_zero, List.set_cons_succ])
          refine wpAnyH_take (i := 8) (v := ?hv5) rfl (by kernel_rfl) (by kernel_rfl) (by kernel_rfl) (fun _ _ _ h => h) (Or.inl ⟨by rfl, ?hy5⟩) (by assumption) ?hr5
          case hy5 => (intro w hSw; (try dsimp only at hSw); go_simp; try with_reducible rfl)
          (try simp only [Act.put, List.getElem_toArray, List.getElem_cons_zero, List.getElem_cons_succ, List.setIfInBounds_toArray, List.set_cons_zero, List.set_cons_succ])
          refine wpAnyH_take (i := 9) (v := ?hv6) rfl (by kernel_rfl) (by kernel_rfl) (by kernel_rfl) (fun _ _ _ h => h) (Or.inl ⟨by rfl, ?hy6⟩) (by assumption) ?hr6
          case hy6 => (intro w hSw; (try dsimp only at hSw); go_simp; try with_reducible rfl)
          (try simp only [Act.put, List.getElem_toArray, List.getElem_cons_zero, List.getElem_cons_succ, List.setIfInBounds_toArray, List.set_cons_zero, List.set_cons_succ])
          refine wpAnyH_take (i := 10) (v := ?hv7) rfl (by kernel_rfl) (by kernel_rfl) (by kernel_rfl) (fun _ _ _ h => h) (Or.inl ⟨by rfl, ?hy7⟩) (by assumption) ?hr7
          case hy7 => (intro w hSw; (try dsimp only at hSw); go_simp; try with_reducible rfl)
          (try simp only [Act.put, List.getElem_toArray, List.getElem_cons_zero, List.getElem_cons_succ, List.setIfInBounds_toArray, List.set_cons_zero, List.set_cons_succ])
          refine wpAnyH_ready (rs := [0, 6]) (by kernel_rfl) (by simp) ?_
          refine AllReadyH.cons rfl (fun K hK => ?_) (AllReadyH.cons rfl (fun K hK => ?_) AllReadyH.nil)
          · go_simp
            refine hK.out _ _ trivial (fun _ => ?_)
            clear hK K
            have HO1 := hid ((World.ownsRow_made (base := w.heap.size) (e := 21) (size := 1) w #[] 0 (Nat.le_refl _) (Nat.zero_le _) rfl).drew)
            have HB1 := hid (HBd.out (.cells #[] 21))
            have HS1 := hid (hsz1 (.cells #[] 21))
            clear hsz1 HBd
            generalize (w.alloc (.cells #[] 21)).drew = W1 at *
            refine wpAnyH_ready (rs := [4, 6]) (by kernel_rfl) (by simp) ?_
            refine AllReadyH.cons rfl (fun K hK => ?_) (AllReadyH.cons rfl (fun K hK => ?_) AllReadyH.nil)
            · refine step_append_any _ (by rfl) (.tmp 33) (.tmp 36) 37 (by rfl) w.heap.size 21 i0 (.int .i32 0) 1 4 Try.underlying37 hi hz0 hz1 hz2 rfl (by decide) _ 0 (i32s []) (by rfl) HO1.out W1.heap.size _ k _ (i32s (l.take k)) (by rfl) ((HL.out.below HB1.out (Nat.le_refl _)).head (Nat.lt_of_lt_of_le hbl HB1.out.size) k (by omega)) (i32s_one _) (by unfold maxLen; omega) (by omega) (by have := HB1.out.size; omega) ?_
              intro v4 W2 ho4 hg4 hl4
              refine hK.out _ _ trivial (fun _ => ?_)
              clear hK K
              have HB2 := hid (HB1.out.grown hg4 HB1.out.size (own_ge HO1.out))
              rw [Nat.zero_add] at ho4
              obtain ⟨A4, c4, rfl⟩ := owns_slice ho4
              have HO2 := hid ho4
              clear ho4 hg4 hl4
              refine wpAnyH_ready (rs := [6]) (by kernel_rfl) (by simp) ?_
              refine AllReadyH.cons rfl (fun K hK => ?_) AllReadyH.nil
              go_simp
              refine hK.out _ _ trivial (fun _ => ?_)
              clear hK K
              have HO := hid (HO2.out.alloc (.cells #[.int .i32 r] 21))
              have HBW := hid (HB2.out.alloc HB2.out.size (.cells #[.int .i32 r] 21))
              have HQ := hid (Blk.new W2 21 #[.int .i32 r])
              generalize W2.alloc (.cells #[.int .i32 r] 21) = W3 at *
              refine wpAnyH_ready (rs := [7]) (by kernel_rfl) (by simp) ?_
              refine AllReadyH.cons rfl (fun K hK => ?_) AllReadyH.nil
              refine step_append_any _ (by rfl) (.tmp 37) (.tmp 39) 37 (by rfl) w.heap.size 21 i0 (.int .i32 0) 1 4 Try.underlying37 hi hz0 hz1 hz2 rfl (by decide) _ k (i32s (l.take k)) (by rfl) HO.out W3.heap.size _ 1 _ ([.int .i32 r]) (by rfl) (reads_i1 HQ.out) (by simp [Value.oneCell']) (by unfold maxLen; omega) (by omega) (by have := HBW.out.size; omega) ?_
              intro v5 W5 ho5 hg5 hl5
              refine hK.out _ _ trivial (fun _ => ?_)
              clear hK K
              have HB5 := hid (HBW.out.grown hg5 HBW.out.size (own_ge HO.out))
              obtain ⟨A5, c5, rfl⟩ := owns_slice ho5
              have HO5 := hid ho5
              clear ho5 hg5 hl5
              have hrd := (HL.out.below HB5.out (Nat.le_refl _)).reads (Nat.lt_of_lt_of_le hbl HB5.out.size) k (n - k) (by omega) cap (by omega)
              rw [← HOE.out] at hrd
              have HRD := hid hrd
              clear hrd
              refine wpAnyH_ready (rs := [11]) (by kernel_rfl) (by simp) ?_
              refine AllReadyH.cons rfl (fun K hK => ?_) AllReadyH.nil
              refine step_append_any _ (by rfl) (.tmp 40) (.tmp 43) 37 (by rfl) w.heap.size 21 i0 (.int .i32 0) 1 4 Try.underlying37 hi hz0 hz1 hz2 rfl (by decide) _ (k + 1) (i32s (l.take k) ++ [.int .i32 r]) (by rfl) HO5.out W5.heap.size _ (n - k) _ (i32s (l.drop k)) (by rfl) HRD.out (i32s_one _) (by unfold maxLen; omega) (by omega) (by have := HB5.out.size; omega) ?_
              intro v6 W6 ho6 hg6 hl6
              refine hK.out _ _ trivial (fun _ => ?_)
              clear hK K
              have HB6 := hid (HB5.out.grown hg6 HB5.out.size (own_ge HO5.out))
              obtain ⟨A6, c6, rfl⟩ := owns_slice ho6
              have HO6 := hid ho6
              clear ho6 hg6 hl6
              have hTr : True := trivial
              refine wpAnyH_take (i := 12) (v := ?hv8) rfl (by kernel_rfl) (by kernel_rfl) (by kernel_rfl) (fun _ _ _ h => h) (Or.inl ⟨by rfl, ?hy8⟩) (by assumption) ?hr8
              case hy8 => (intro w hSw; (try dsimp only at hSw); go_simp; try with_reducible rfl)
              (try simp only [Act.put, List.getElem_toArray, List.getElem_cons_zero, List.getElem_cons_succ, List.setIfInBounds_toArray, List.set_cons_zero, List.set_cons_succ])
              refine wpAnyH_done (by kernel_rfl) ?_ _
              clear hHeld hTr
              go_wp2_with fail
              go_ret
              refine ⟨_, _, _, rfl, ?_, HB6.out⟩
              rw [HR.out]
              refine RI.of_own (e := 21) (B := w.heap.size) ?_
              have hz := HO6.out
              rwa [show i32s (l.take k) ++ [.int .i32 r] ++ i32s (l.drop k) = i32s (l.take k ++ r :: l.drop k) by simp [i32s]] at hz
            · go_simp
              refine hK.out _ _ trivial (fun _ => ?_)
              clear hK K
              have HO2 := hid (HO1.out.alloc (.cells #[.int .i32 r] 21))
              have HB2 := hid (HB1.out.alloc HB1.out.size (.cells #[.int .i32 r] 21))
              have HQ2 := hid (Blk.new W1 21 #[.int .i32 r])
              generalize W1.alloc (.cells #[.int .i32 r] 21) = W2 at *
              refine wpAnyH_ready (rs := [4]) (by kernel_rfl) (by simp) ?_
              refine AllReadyH.cons rfl (fun K hK => ?_) AllReadyH.nil
              refine step_append_any _ (by rfl) (.tmp 33) (.tmp 36) 37 (by rfl) w.heap.size 21 i0 (.int .i32 0) 1 4 Try.underlying37 hi hz0 hz1 hz2 rfl (by decide) _ 0 (i32s []) (by rfl) HO2.out W2.heap.size _ k _ (i32s (l.take k)) (by rfl) ((HL.out.below HB2.out (Nat.le_refl _)).head (Nat.lt_of_lt_of_le hbl HB2.out.size) k (by omega)) (i32s_one _) (by unfold maxLen; omega) (by omega) (by have := HB2.out.size; omega) ?_
              intro v4 W3 ho4 hg4 hl4
              refine hK.out _ _ trivial (fun _ => ?_)
              clear hK K
              have HBW := hid (HB2.out.grown hg4 HB2.out.size (own_ge HO2.out))
              have HQ := hid (HQ2.out.grown hg4 (by show some W1.heap.size ≠ some w.heap.size; rw [HS1.out]; simp))
              rw [Nat.zero_add] at ho4
              obtain ⟨A4, c4, rfl⟩ := owns_slice ho4
              have HO := hid ho4
              clear ho4 hg4 hl4
              refine wpAnyH_ready (rs := [7]) (by kernel_rfl) (by simp) ?_
              refine AllReadyH.cons rfl (fun K hK => ?_) AllReadyH.nil
              refine step_append_any _ (by rfl) (.tmp 37) (.tmp 39) 37 (by rfl) w.heap.size 21 i0 (.int .i32 0) 1 4 Try.underlying37 hi hz0 hz1 hz2 rfl (by decide) _ k (i32s (l.take k)) (by rfl) HO.out W3.heap.size _ 1 _ ([.int .i32 r]) (by rfl) (reads_i1 HQ.out) (by simp [Value.oneCell']) (by unfold maxLen; omega) (by omega) (by have := HBW.out.size; omega) ?_
              intro v5 W5 ho5 hg5 hl5
              refine hK.out _ _ trivial (fun _ => ?_)
              clear hK K
              have HB5 := hid (HBW.out.grown hg5 HBW.out.size (own_ge HO.out))
              obtain ⟨A5, c5, rfl⟩ := owns_slice ho5
              have HO5 := hid ho5
              clear ho5 hg5 hl5
              have hrd := (HL.out.below HB5.out (Nat.le_refl _)).reads (Nat.lt_of_lt_of_le hbl HB5.out.size) k (n - k) (by omega) cap (by omega)
              rw [← HOE.out] at hrd
              have HRD := hid hrd
              clear hrd
              refine wpAnyH_ready (rs := [11]) (by kernel_rfl) (by simp) ?_
              refine AllReadyH.cons rfl (fun K hK => ?_) AllReadyH.nil
              refine step_append_any _ (by rfl) (.tmp 40) (.tmp 43) 37 (by rfl) w.heap.size 21 i0 (.int .i32 0) 1 4 Try.underlying37 hi hz0 hz1 hz2 rfl (by decide) _ (k + 1) (i32s (l.take k) ++ [.int .i32 r]) (by rfl) HO5.out W5.heap.size _ (n - k) _ (i32s (l.drop k)) (by rfl) HRD.out (i32s_one _) (by unfold maxLen; omega) (by omega) (by have := HB5.out.size; omega) ?_
              intro v6 W6 ho6 hg6 hl6
              refine hK.out _ _ trivial (fun _ => ?_)
              clear hK K
              have HB6 := hid (HB5.out.grown hg6 HB5.out.size (own_ge HO5.out))
              obtain ⟨A6, c6, rfl⟩ := owns_slice ho6
              have HO6 := hid ho6
              clear ho6 hg6 hl6
              have hTr : True := trivial
              refine wpAnyH_take (i := 12) (v := ?hv9) rfl (by kernel_rfl) (by kernel_rfl) (by kernel_rfl) (fun _ _ _ h => h) (Or.inl ⟨by rfl, ?hy9⟩) (by assumption) ?hr9
              case hy9 => (intro w hSw; (try dsimp only at hSw); go_simp; try with_reducible rfl)
              (try simp only [Act.put, List.getElem_toArray, List.getElem_cons_zero, List.getElem_cons_succ, List.setIfInBounds_toArray, List.set_cons_zero, List.set_cons_succ])
              refine wpAnyH_done (by kernel_rfl) ?_ _
              clear hHeld hTr
              go_wp2_with fail
              go_ret
              refine ⟨_, _, _, rfl, ?_, HB6.out⟩
              rw [HR.out]
              refine RI.of_own (e := 21) (B := w.heap.size) ?_
              have hz := HO6.out
              rwa [show i32s (l.take k) ++ [.int .i32 r] ++ i32s (l.drop k) = i32s (l.take k ++ r :: l.drop k) by simp [i32s]] at hz
          · go_simp
            refine hK.out _ _ trivial (fun _ => ?_)
            clear hK K
            have HB1 := hid (HBd.out (.cells #[.int .i32 r] 21))
            have HQ1 := hid (show Blk (w.alloc (.cells #[.int .i32 r] 21)).drew w.heap.size 21 #[.int .i32 r] from Blk.new w 21 #[.int .i32 r])
            have HS1 := hid (hsz1 (.cells #[.int .i32 r] 21))
            clear hsz1 HBd
            generalize (w.alloc (.cells #[.int .i32 r] 21)).drew = W1 at *
            refine wpAnyH_ready (rs := [0]) (by kernel_rfl) (by simp) ?_
            refine AllReadyH.cons rfl (fun K hK => ?_) AllReadyH.nil
            go_simp
            refine hK.out _ _ trivial (fun _ => ?_)
            clear hK K
            have HO2 := hid (World.ownsRow_made (base := w.heap.size) (e := 21) (size := 1) W1 #[] 0 HB1.out.size (Nat.zero_le _) rfl)
            have HB2 := hid (HB1.out.alloc HB1.out.size (.cells #[] 21))
            have HQ2 := hid (HQ1.out.alloc (.cells #[] 21))
            generalize W1.alloc (.cells #[] 21) = W2 at *
            refine wpAnyH_ready (rs := [4]) (by kernel_rfl) (by simp) ?_
            refine AllReadyH.cons rfl (fun K hK => ?_) AllReadyH.nil
            refine step_append_any _ (by rfl) (.tmp 33) (.tmp 36) 37 (by rfl) w.heap.size 21 i0 (.int .i32 0) 1 4 Try.underlying37 hi hz0 hz1 hz2 rfl (by decide) _ 0 (i32s []) (by rfl) HO2.out W2.heap.size _ k _ (i32s (l.take k)) (by rfl) ((HL.out.below HB2.out (Nat.le_refl _)).head (Nat.lt_of_lt_of_le hbl HB2.out.size) k (by omega)) (i32s_one _) (by unfold maxLen; omega) (by omega) (by have := HB2.out.size; omega) ?_
            intro v4 W3 ho4 hg4 hl4
            refine hK.out _ _ trivial (fun _ => ?_)
            clear hK K
            have HBW := hid (HB2.out.grown hg4 HB2.out.size (own_ge HO2.out))
            have HQ := hid (HQ2.out.grown hg4 (by show some w.heap.size ≠ some W1.heap.size; rw [HS1.out]; simp))
            rw [Nat.zero_add] at ho4
            obtain ⟨A4, c4, rfl⟩ := owns_slice ho4
            have HO := hid ho4
            clear ho4 hg4 hl4
            refine wpAnyH_ready (rs := [7]) (by kernel_rfl) (by simp) ?_
            refine AllReadyH.cons rfl (fun K hK => ?_) AllReadyH.nil
            refine step_append_any _ (by rfl) (.tmp 37) (.tmp 39) 37 (by rfl) w.heap.size 21 i0 (.int .i32 0) 1 4 Try.underlying37 hi hz0 hz1 hz2 rfl (by decide) _ k (i32s (l.take k)) (by rfl) HO.out W3.heap.size _ 1 _ ([.int .i32 r]) (by rfl) (reads_i1 HQ.out) (by simp [Value.oneCell']) (by unfold maxLen; omega) (by omega) (by have := HBW.out.size; omega) ?_
            intro v5 W5 ho5 hg5 hl5
            refine hK.out _ _ trivial (fun _ => ?_)
            clear hK K
            have HB5 := hid (HBW.out.grown hg5 HBW.out.size (own_ge HO.out))
            obtain ⟨A5, c5, rfl⟩ := owns_slice ho5
            have HO5 := hid ho5
            clear ho5 hg5 hl5
            have hrd := (HL.out.below HB5.out (Nat.le_refl _)).reads (Nat.lt_of_lt_of_le hbl HB5.out.size) k (n - k) (by omega) cap (by omega)
            rw [← HOE.out] at hrd
            have HRD := hid hrd
            clear hrd
            refine wpAnyH_ready (rs := [11]) (by kernel_rfl) (by simp) ?_
            refine AllReadyH.cons rfl (fun K hK => ?_) AllReadyH.nil
            refine step_append_any _ (by rfl) (.tmp 40) (.tmp 43) 37 (by rfl) w.heap.size 21 i0 (.int .i32 0) 1 4 Try.underlying37 hi hz0 hz1 hz2 rfl (by decide) _ (k + 1) (i32s (l.take k) ++ [.int .i32 r]) (by rfl) HO5.out W5.heap.size _ (n - k) _ (i32s (l.drop k)) (by rfl) HRD.out (i32s_one _) (by unfold maxLen; omega) (by omega) (by have := HB5.out.size; omega) ?_
            intro v6 W6 ho6 hg6 hl6
            refine hK.out _ _ trivial (fun _ => ?_)
            clear hK K
            have HB6 := hid (HB5.out.grown hg6 HB5.out.size (own_ge HO5.out))
            obtain ⟨A6, c6, rfl⟩ := owns_slice ho6
            have HO6 := hid ho6
            clear ho6 hg6 hl6
            have hTr : True := trivial
            refine wpAnyH_take (i := 12) (v := ?hv10) rfl (by kernel_rfl) (by kernel_rfl) (by kernel_rfl) (fun _ _ _ h => h) (Or.inl ⟨by rfl, ?hy10⟩) (by assumption) ?hr10
            case hy10 => (intro w hSw; (try dsimp only at hSw); go_simp; try with_reducible rfl)
            (try simp only [Act.put, List.getElem_toArray, List.getElem_cons_zero, List.getElem_cons_succ, List.setIfInBounds_toArray, List.set_cons_zero, List.set_cons_succ])
            refine wpAnyH_done (by kernel_rfl) ?_ _
            clear hHeld hTr
            go_wp2_with fail
            go_ret
            refine ⟨_, _, _, rfl, ?_, HB6.out⟩
            rw [HR.out]
            refine RI.of_own (e := 21) (B := w.heap.size) ?_
            have hz := HO6.out
            rwa [show i32s (l.take k) ++ [.int .i32 r] ++ i32s (l.drop k) = i32s (l.take k ++ r :: l.drop k) by simp [i32s]] at hz
    · obtain rfl : k = n := by omega
      have hlt' : ¬ (k : Int) < (k : Int) := by omega
      have HR := hid (show insL l r = l.take k ++ r :: l.drop k by
        have e : lessN l r = k := lessN_is (by have := HN.out; omega) (fun j hj => (A.out j hj).2) (fun h => by have := HN.out; omega)
        rw [insL_at, dif_neg (by rw [e]; have := HN.out; omega), List.take_of_length_le (by have := HN.out; omega), List.drop_eq_nil_of_le (by have := HN.out; omega)])
      clear hk hg hlt
      go_upto_region 6 with fail
      have h1 := slice_hd b off k cap k (by omega) (by omega)
      have h2 := slice_tl b off k cap k (by omega) hcap
      obtain ⟨o2, ho2⟩ : ∃ o, o = if cap = k then off else off + k := ⟨_, rfl⟩
      simp only [← ho2] at h2
      have HOE := hid ho2
      clear ho2
      have HBd := hid (fun (o : Obj) => ((Below.refl w.heap.size w).alloc (Nat.le_refl _) o).drew)
      have hsz1 : ∀ o : Obj, (w.alloc o).drew.heap.size = w.heap.size + 1 := fun o => by simp
      refine wp_region_held_drew (S := fun _ => True) (by kernel_rfl) trivial (fun hHeld => ?_)
      refine wpAnyH_take (i := 1) (v := ?hv11) rfl (by kernel_rfl) (by kernel_rfl) (by kernel_rfl) (fun _ _ _ h => h) (Or.inl ⟨by rfl, ?hy11⟩) (by assumption) ?hr11
      case hy11 => (intro w hSw; (try dsimp only at hSw); go_simp; try with_reducible rfl)
      (try simp only [Act.put, List.getElem_toArray, List.getElem_cons_zero, List.getElem_cons_succ, List.setIfInBounds_toArray, List.set_cons_zero, List.set_cons_succ])
      refine wpAnyH_take (i := 2) (v := ?hv12) rfl (by kernel_rfl) (by kernel_rfl) (by kernel_rfl) (fun _ _ _ h => h) (Or.inl ⟨by rfl, ?hy12⟩) (by assumption) ?hr12
      case hy12 => (intro w hSw; (try dsimp only at hSw); go_simp; try with_reducible rfl)
      (try simp only [Act.put, List.getElem_toArray, List.getElem_cons_zero, List.getElem_cons_succ, List.setIfInBounds_toArray, List.set_cons_zero, List.set_cons_succ])
      refine wpAnyH_take (i := 3) (v := ?hv13) rfl (by kernel_rfl) (by kernel_rfl) (by kernel_rfl) (fun _ _ _ h => h) (Or.inl ⟨by rfl, ?hy13⟩) (by assumption) ?hr13
      case hy13 => (intro w hSw; (try dsimp only at hSw); go_simp; try with_reducible rfl)
      (try simp only [Act.put, List.getElem_toArray, List.getElem_cons_zero, List.getElem_cons_succ, List.setIfInBounds_toArray, List.set_cons_zero, List.set_cons_succ])
      refine wpAnyH_take (i := 5) (v := ?hv14) rfl (by kernel_rfl) (by kernel_rfl) (by kernel_rfl) (fun _ _ _ h => h) (Or.inl ⟨by rfl, ?hy14⟩) (by assumption) ?hr14
      case hy14 => (intro w hSw; (try dsimp only at hSw); go_simp; try with_reducible rfl)
      (try simp only [Act.put, List.getElem_toArray, List.getElem_cons_zero, List.getElem_cons_succ, List.setIfInBounds_toArray, List.set_cons_zero, List.set_cons_succ])
      refine wpAnyH_take (i := 8) (v := ?hv15) rfl (by kernel_rfl) (by kernel_rfl) (by kernel_rfl) (fun _ _ _ h => h) (Or.inl ⟨by rfl, ?hy15⟩) (by assumption) ?hr15
      case hy15 => (intro w hSw; (try dsimp only at hSw); go_simp; try with_reducible rfl)
      (try simp only [Act.put, List.getElem_toArray, List.getElem_cons_zero, List.getElem_cons_succ, List.setIfInBounds_toArray, List.set_cons_zero, List.set_cons_succ])
      refine wpAnyH_take (i := 9) (v := ?hv16) rfl (by kernel_rfl) (by kernel_rfl) (by kernel_rfl) (fun _ _ _ h => h) (Or.inl ⟨by rfl, ?hy16⟩) (by assumption) ?hr16
      case hy16 => (intro w hSw; (try dsimp only at hSw); go_simp; try with_reducible rfl)
      (try simp only [Act.put, List.getElem_toArray, List.getElem_cons_zero, List.getElem_cons_succ, List.setIfInBounds_toArray, List.set_cons_zero, List.set_cons_succ])
      refine wpAnyH_take (i := 10) (v := ?hv17) rfl (by kernel_rfl) (by kernel_rfl) (by kernel_rfl) (fun _ _ _ h => h) (Or.inl ⟨by rfl, ?hy17⟩) (by assumption) ?hr17
      case hy17 => (intro w hSw; (try dsimp only at hSw); go_simp; try with_reducible rfl)
      (try simp only [Act.put, List.getElem_toArray, List.getElem_cons_zero, List.getElem_cons_succ, List.setIfInBounds_toArray, List.set_cons_zero, List.set_cons_succ])
      refine wpAnyH_ready (rs := [0, 6]) (by kernel_rfl) (by simp) ?_
      refine AllReadyH.cons rfl (fun K hK => ?_) (AllReadyH.cons rfl (fun K hK => ?_) AllReadyH.nil)
      · go_simp
        refine hK.out _ _ trivial (fun _ => ?_)
        clear hK K
        have HO1 := hid ((World.ownsRow_made (base := w.heap.size) (e := 21) (size := 1) w #[] 0 (Nat.le_refl _) (Nat.zero_le _) rfl).drew)
        have HB1 := hid (HBd.out (.cells #[] 21))
        have HS1 := hid (hsz1 (.cells #[] 21))
        clear hsz1 HBd
        generalize (w.alloc (.cells #[] 21)).drew = W1 at *
        refine wpAnyH_ready (rs := [4, 6]) (by kernel_rfl) (by simp) ?_
        refine AllReadyH.cons rfl (fun K hK => ?_) (AllReadyH.cons rfl (fun K hK => ?_) AllReadyH.nil)
        · refine step_append_any _ (by rfl) (.tmp 33) (.tmp 36) 37 (by rfl) w.heap.size 21 i0 (.int .i32 0) 1 4 Try.underlying37 hi hz0 hz1 hz2 rfl (by decide) _ 0 (i32s []) (by rfl) HO1.out W1.heap.size _ k _ (i32s (l.take k)) (by rfl) ((HL.out.below HB1.out (Nat.le_refl _)).head (Nat.lt_of_lt_of_le hbl HB1.out.size) k (by omega)) (i32s_one _) (by unfold maxLen; omega) (by omega) (by have := HB1.out.size; omega) ?_
          intro v4 W2 ho4 hg4 hl4
          refine hK.out _ _ trivial (fun _ => ?_)
          clear hK K
          have HB2 := hid (HB1.out.grown hg4 HB1.out.size (own_ge HO1.out))
          rw [Nat.zero_add] at ho4
          obtain ⟨A4, c4, rfl⟩ := owns_slice ho4
          have HO2 := hid ho4
          clear ho4 hg4 hl4
          refine wpAnyH_ready (rs := [6]) (by kernel_rfl) (by simp) ?_
          refine AllReadyH.cons rfl (fun K hK => ?_) AllReadyH.nil
          go_simp
          refine hK.out _ _ trivial (fun _ => ?_)
          clear hK K
          have HO := hid (HO2.out.alloc (.cells #[.int .i32 r] 21))
          have HBW := hid (HB2.out.alloc HB2.out.size (.cells #[.int .i32 r] 21))
          have HQ := hid (Blk.new W2 21 #[.int .i32 r])
          generalize W2.alloc (.cells #[.int .i32 r] 21) = W3 at *
          refine wpAnyH_ready (rs := [7]) (by kernel_rfl) (by simp) ?_
          refine AllReadyH.cons rfl (fun K hK => ?_) AllReadyH.nil
          refine step_append_any _ (by rfl) (.tmp 37) (.tmp 39) 37 (by rfl) w.heap.size 21 i0 (.int .i32 0) 1 4 Try.underlying37 hi hz0 hz1 hz2 rfl (by decide) _ k (i32s (l.take k)) (by rfl) HO.out W3.heap.size _ 1 _ ([.int .i32 r]) (by rfl) (reads_i1 HQ.out) (by simp [Value.oneCell']) (by unfold maxLen; omega) (by omega) (by have := HBW.out.size; omega) ?_
          intro v5 W5 ho5 hg5 hl5
          refine hK.out _ _ trivial (fun _ => ?_)
          clear hK K
          have HB5 := hid (HBW.out.grown hg5 HBW.out.size (own_ge HO.out))
          obtain ⟨A5, c5, rfl⟩ := owns_slice ho5
          have HO5 := hid ho5
          clear ho5 hg5 hl5
          have hrd := (HL.out.below HB5.out (Nat.le_refl _)).reads (Nat.lt_of_lt_of_le hbl HB5.out.size) k 0 (by omega) cap (by omega)
          rw [← HOE.out] at hrd
          have HRD := hid hrd
          clear hrd
          refine wpAnyH_ready (rs := [11]) (by kernel_rfl) (by simp) ?_
          refine AllReadyH.cons rfl (fun K hK => ?_) AllReadyH.nil
          refine step_append_any _ (by rfl) (.tmp 40) (.tmp 43) 37 (by rfl) w.heap.size 21 i0 (.int .i32 0) 1 4 Try.underlying37 hi hz0 hz1 hz2 rfl (by decide) _ (k + 1) (i32s (l.take k) ++ [.int .i32 r]) (by rfl) HO5.out W5.heap.size _ 0 _ (i32s (l.drop k)) (by rfl) HRD.out (i32s_one _) (by unfold maxLen; omega) (by omega) (by have := HB5.out.size; omega) ?_
          intro v6 W6 ho6 hg6 hl6
          refine hK.out _ _ trivial (fun _ => ?_)
          clear hK K
          have HB6 := hid (HB5.out.grown hg6 HB5.out.size (own_ge HO5.out))
          obtain ⟨A6, c6, rfl⟩ := owns_slice ho6
          have HO6 := hid ho6
          clear ho6 hg6 hl6
          have hTr : True := trivial
          refine wpAnyH_take (i := 12) (v := ?hv18) rfl (by kernel_rfl) (by kernel_rfl) (by kernel_rfl) (fun _ _ _ h => h) (Or.inl ⟨by rfl, ?hy18⟩) (by assumption) ?hr18
          case hy18 => (intro w hSw; (try dsimp only at hSw); go_simp; try with_reducible rfl)
          (try simp only [Act.put, List.getElem_toArray, List.getElem_cons_zero, List.getElem_cons_succ, List.setIfInBounds_toArray, List.set_cons_zero, List.set_cons_succ])
          refine wpAnyH_done (by kernel_rfl) ?_ _
          clear hHeld hTr
          go_wp2_with fail
          go_ret
          refine ⟨_, _, _, rfl, ?_, HB6.out⟩
          rw [HR.out]
          refine RI.of_own (e := 21) (B := w.heap.size) ?_
          have hz := HO6.out
          rwa [show i32s (l.take k) ++ [.int .i32 r] ++ i32s (l.drop k) = i32s (l.take k ++ r :: l.drop k) by simp [i32s]] at hz
        · go_simp
          refine hK.out _ _ trivial (fun _ => ?_)
          clear hK K
          have HO2 := hid (HO1.out.alloc (.cells #[.int .i32 r] 21))
          have HB2 := hid (HB1.out.alloc HB1.out.size (.cells #[.int .i32 r] 21))
          have HQ2 := hid (Blk.new W1 21 #[.int .i32 r])
          generalize W1.alloc (.cells #[.int .i32 r] 21) = W2 at *
          refine wpAnyH_ready (rs := [4]) (by kernel_rfl) (by simp) ?_
          refine AllReadyH.cons rfl (fun K hK => ?_) AllReadyH.nil
          refine step_append_any _ (by rfl) (.tmp 33) (.tmp 36) 37 (by rfl) w.heap.size 21 i0 (.int .i32 0) 1 4 Try.underlying37 hi hz0 hz1 hz2 rfl (by decide) _ 0 (i32s []) (by rfl) HO2.out W2.heap.size _ k _ (i32s (l.take k)) (by rfl) ((HL.out.below HB2.out (Nat.le_refl _)).head (Nat.lt_of_lt_of_le hbl HB2.out.size) k (by omega)) (i32s_one _) (by unfold maxLen; omega) (by omega) (by have := HB2.out.size; omega) ?_
          intro v4 W3 ho4 hg4 hl4
          refine hK.out _ _ trivial (fun _ => ?_)
          clear hK K
          have HBW := hid (HB2.out.grown hg4 HB2.out.size (own_ge HO2.out))
          have HQ := hid (HQ2.out.grown hg4 (by show some W1.heap.size ≠ some w.heap.size; rw [HS1.out]; simp))
          rw [Nat.zero_add] at ho4
          obtain ⟨A4, c4, rfl⟩ := owns_slice ho4
          have HO := hid ho4
          clear ho4 hg4 hl4
          refine wpAnyH_ready (rs := [7]) (by kernel_rfl) (by simp) ?_
          refine AllReadyH.cons rfl (fun K hK => ?_) AllReadyH.nil
          refine step_append_any _ (by rfl) (.tmp 37) (.tmp 39) 37 (by rfl) w.heap.size 21 i0 (.int .i32 0) 1 4 Try.underlying37 hi hz0 hz1 hz2 rfl (by decide) _ k (i32s (l.take k)) (by rfl) HO.out W3.heap.size _ 1 _ ([.int .i32 r]) (by rfl) (reads_i1 HQ.out) (by simp [Value.oneCell']) (by unfold maxLen; omega) (by omega) (by have := HBW.out.size; omega) ?_
          intro v5 W5 ho5 hg5 hl5
          refine hK.out _ _ trivial (fun _ => ?_)
          clear hK K
          have HB5 := hid (HBW.out.grown hg5 HBW.out.size (own_ge HO.out))
          obtain ⟨A5, c5, rfl⟩ := owns_slice ho5
          have HO5 := hid ho5
          clear ho5 hg5 hl5
          have hrd := (HL.out.below HB5.out (Nat.le_refl _)).reads (Nat.lt_of_lt_of_le hbl HB5.out.size) k 0 (by omega) cap (by omega)
          rw [← HOE.out] at hrd
          have HRD := hid hrd
          clear hrd
          refine wpAnyH_ready (rs := [11]) (by kernel_rfl) (by simp) ?_
          refine AllReadyH.cons rfl (fun K hK => ?_) AllReadyH.nil
          refine step_append_any _ (by rfl) (.tmp 40) (.tmp 43) 37 (by rfl) w.heap.size 21 i0 (.int .i32 0) 1 4 Try.underlying37 hi hz0 hz1 hz2 rfl (by decide) _ (k + 1) (i32s (l.take k) ++ [.int .i32 r]) (by rfl) HO5.out W5.heap.size _ 0 _ (i32s (l.drop k)) (by rfl) HRD.out (i32s_one _) (by unfold maxLen; omega) (by omega) (by have := HB5.out.size; omega) ?_
          intro v6 W6 ho6 hg6 hl6
          refine hK.out _ _ trivial (fun _ => ?_)
          clear hK K
          have HB6 := hid (HB5.out.grown hg6 HB5.out.size (own_ge HO5.out))
          obtain ⟨A6, c6, rfl⟩ := owns_slice ho6
          have HO6 := hid ho6
          clear ho6 hg6 hl6
          have hTr : True := trivial
          refine wpAnyH_take (i := 12) (v := ?hv19) rfl (by kernel_rfl) (by kernel_rfl) (by kernel_rfl) (fun _ _ _ h => h) (Or.inl ⟨by rfl, ?hy19⟩) (by assumption) ?hr19
          case hy19 => (intro w hSw; (try dsimp only at hSw); go_simp; try with_reducible rfl)
          (try simp only [Act.put, List.getElem_toArray, List.getElem_cons_zero, List.getElem_cons_succ, List.setIfInBounds_toArray, List.set_cons_zero, List.set_cons_succ])
          refine wpAnyH_done (by kernel_rfl) ?_ _
          clear hHeld hTr
          go_wp2_with fail
          go_ret
          refine ⟨_, _, _, rfl, ?_, HB6.out⟩
          rw [HR.out]
          refine RI.of_own (e := 21) (B := w.heap.size) ?_
          have hz := HO6.out
          rwa [show i32s (l.take k) ++ [.int .i32 r] ++ i32s (l.drop k) = i32s (l.take k ++ r :: l.drop k) by simp [i32s]] at hz
      · go_simp
        refine hK.out _ _ trivial (fun _ => ?_)
        clear hK K
        have HB1 := hid (HBd.out (.cells #[.int .i32 r] 21))
        have HQ1 := hid (show Blk (w.alloc (.cells #[.int .i32 r] 21)).drew w.heap.size 21 #[.int .i32 r] from Blk.new w 21 #[.int .i32 r])
        have HS1 := hid (hsz1 (.cells #[.int .i32 r] 21))
        clear hsz1 HBd
        generalize (w.alloc (.cells #[.int .i32 r] 21)).drew = W1 at *
        refine wpAnyH_ready (rs := [0]) (by kernel_rfl) (by simp) ?_
        refine AllReadyH.cons rfl (fun K hK => ?_) AllReadyH.nil
        go_simp
        refine hK.out _ _ trivial (fun _ => ?_)
        clear hK K
        have HO2 := hid (World.ownsRow_made (base := w.heap.size) (e := 21) (size := 1) W1 #[] 0 HB1.out.size (Nat.zero_le _) rfl)
        have HB2 := hid (HB1.out.alloc HB1.out.size (.cells #[] 21))
        have HQ2 := hid (HQ1.out.alloc (.cells #[] 21))
        generalize W1.alloc (.cells #[] 21) = W2 at *
        refine wpAnyH_ready (rs := [4]) (by kernel_rfl) (by simp) ?_
        refine AllReadyH.cons rfl (fun K hK => ?_) AllReadyH.nil
        refine step_append_any _ (by rfl) (.tmp 33) (.tmp 36) 37 (by rfl) w.heap.size 21 i0 (.int .i32 0) 1 4 Try.underlying37 hi hz0 hz1 hz2 rfl (by decide) _ 0 (i32s []) (by rfl) HO2.out W2.heap.size _ k _ (i32s (l.take k)) (by rfl) ((HL.out.below HB2.out (Nat.le_refl _)).head (Nat.lt_of_lt_of_le hbl HB2.out.size) k (by omega)) (i32s_one _) (by unfold maxLen; omega) (by omega) (by have := HB2.out.size; omega) ?_
        intro v4 W3 ho4 hg4 hl4
        refine hK.out _ _ trivial (fun _ => ?_)
        clear hK K
        have HBW := hid (HB2.out.grown hg4 HB2.out.size (own_ge HO2.out))
        have HQ := hid (HQ2.out.grown hg4 (by show some w.heap.size ≠ some W1.heap.size; rw [HS1.out]; simp))
        rw [Nat.zero_add] at ho4
        obtain ⟨A4, c4, rfl⟩ := owns_slice ho4
        have HO := hid ho4
        clear ho4 hg4 hl4
        refine wpAnyH_ready (rs := [7]) (by kernel_rfl) (by simp) ?_
        refine AllReadyH.cons rfl (fun K hK => ?_) AllReadyH.nil
        refine step_append_any _ (by rfl) (.tmp 37) (.tmp 39) 37 (by rfl) w.heap.size 21 i0 (.int .i32 0) 1 4 Try.underlying37 hi hz0 hz1 hz2 rfl (by decide) _ k (i32s (l.take k)) (by rfl) HO.out W3.heap.size _ 1 _ ([.int .i32 r]) (by rfl) (reads_i1 HQ.out) (by simp [Value.oneCell']) (by unfold maxLen; omega) (by omega) (by have := HBW.out.size; omega) ?_
        intro v5 W5 ho5 hg5 hl5
        refine hK.out _ _ trivial (fun _ => ?_)
        clear hK K
        have HB5 := hid (HBW.out.grown hg5 HBW.out.size (own_ge HO.out))
        obtain ⟨A5, c5, rfl⟩ := owns_slice ho5
        have HO5 := hid ho5
        clear ho5 hg5 hl5
        have hrd := (HL.out.below HB5.out (Nat.le_refl _)).reads (Nat.lt_of_lt_of_le hbl HB5.out.size) k 0 (by omega) cap (by omega)
        rw [← HOE.out] at hrd
        have HRD := hid hrd
        clear hrd
        refine wpAnyH_ready (rs := [11]) (by kernel_rfl) (by simp) ?_
        refine AllReadyH.cons rfl (fun K hK => ?_) AllReadyH.nil
        refine step_append_any _ (by rfl) (.tmp 40) (.tmp 43) 37 (by rfl) w.heap.size 21 i0 (.int .i32 0) 1 4 Try.underlying37 hi hz0 hz1 hz2 rfl (by decide) _ (k + 1) (i32s (l.take k) ++ [.int .i32 r]) (by rfl) HO5.out W5.heap.size _ 0 _ (i32s (l.drop k)) (by rfl) HRD.out (i32s_one _) (by unfold maxLen; omega) (by omega) (by have := HB5.out.size; omega) ?_
        intro v6 W6 ho6 hg6 hl6
        refine hK.out _ _ trivial (fun _ => ?_)
        clear hK K
        have HB6 := hid (HB5.out.grown hg6 HB5.out.size (own_ge HO5.out))
        obtain ⟨A6, c6, rfl⟩ := owns_slice ho6
        have HO6 := hid ho6
        clear ho6 hg6 hl6
        have hTr : True := trivial
        refine wpAnyH_take (i := 12) (v := ?hv20) rfl (by kernel_rfl) (by kernel_rfl) (by kernel_rfl) (fun _ _ _ h => h) (Or.inl ⟨by rfl, ?hy20⟩) (by assumption) ?hr20
        case hy20 => (intro w hSw; (try dsimp only at hSw); go_simp; try with_reducible rfl)
        (try simp only [Act.put, List.getElem_toArray, List.getElem_cons_zero, List.getElem_cons_succ, List.setIfInBounds_toArray, List.set_cons_zero, List.set_cons_succ])
        refine wpAnyH_done (by kernel_rfl) ?_ _
        clear hHeld hTr
        go_wp2_with fail
        go_ret
        refine ⟨_, _, _, rfl, ?_, HB6.out⟩
        rw [HR.out]
        refine RI.of_own (e := 21) (B := w.heap.size) ?_
        have hz := HO6.out
        rwa [show i32s (l.take k) ++ [.int .i32 r] ++ i32s (l.drop k) = i32s (l.take k ++ r :: l.drop k) by simp [i32s]] at hz
end Go.Proofs.Ytbkjanlkklmleaa
