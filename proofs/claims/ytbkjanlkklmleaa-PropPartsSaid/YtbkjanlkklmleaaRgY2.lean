/- Chapter 02: Cut, Minus, Same: the walks. -/
import Derived.Test.YtbkjanlkklmleaaRgY
import Derived.BigRegion
namespace Go.Proofs.Ytbkjanlkklmleaa
open Go.RowKit
open Go.Lib (hid)
set_option linter.unusedVariables false
set_option maxRecDepth 100000

def offRg (cap off : Nat) : Nat := if cap = 1 then off else off + 2
theorem rg_tail (b off n cap : Nat) (hn : 1 ≤ n) (hcap : n ≤ cap) (W : World) : (Instr.slice 23 (.slice (some ⟨b, off, none⟩) n cap) (some (.int .i64 1)) none none).run Try.prog W = .ok (.slice (some ⟨b, offRg cap off, none⟩) (n - 1) (cap - 1)) W := by
  rw [run_slice_l (P := Try.prog) W 23 _ n cap rfl .i64 1 (by omega) (by omega)]
  have hs : (sizeOf (Try.prog.elem 23)).run Try.prog W = .ok 2 W := by go_simp
  rw [hs]
  unfold offRg
  by_cases hc : cap = 1
  · subst hc
    simp [Result.andThen, sliced]
  · simp [Result.andThen, sliced, hc, Addr.add]
theorem RR.tail {w : World} {b off n cap : Nat} {x : Rg} {l : List Rg} (h : RR w (some ⟨b, off, none⟩) n cap (x :: l)) : RR w (some ⟨b, offRg cap off, none⟩) (n - 1) (cap - 1) l := by
  have h1 := h.1
  rw [List.length_cons] at h1
  refine ⟨by omega, by have := h.2.1; omega, by have := h.2.2.1; omega, fun hn => ?_⟩
  obtain ⟨b', off', e, hbl, hz⟩ := h.2.2.2 (by omega)
  obtain ⟨rfl, rfl⟩ : b = b' ∧ off = off' := by injection e with e; injection e with e1 e2 _; exact ⟨e1, e2⟩
  refine ⟨b, off + 2, by unfold offRg; rw [if_neg (by have := h.2.1; omega)], hbl, fun j hj => ?_⟩
  have := hz (j + 1) (by simpa using hj)
  rw [show off + (j + 1) * 2 = off + 2 + j * 2 by omega] at this
  simpa using this
set_option maxHeartbeats 4000000 in
theorem cut_any (a1 : Option Addr) (n1 c1 : Nat) (l : List Rg) (a2 : Option Addr) (n2 c2 : Nat) (k : List Rg) (w : World) (h1 : RR w a1 n1 c1 l) (h2 : RR w a2 n2 c2 k)
    (hn1 : n1 ≤ 400000) (hn2 : n2 ≤ 400000) (h321 : In32 l) (h322 : In32 k) :
    Calls Try.prog 12 #[.slice a1 n1 c1, .slice a2 n2 c2] w fun e w' => RetR w e w' (cutR (knownL l) (knownL k)) := by
  obtain ⟨i0, hi, hz0, hz1, hz2⟩ := info_parts info_rg
  have HK1 := hid (known_any a1 n1 c1 l w h1 (by omega) h321)
  have HK2 := hid (fun (W : World) (h : RR W a2 n2 c2 k) => known_any a2 n2 c2 k W h (by omega) h322)
  have HOK1 := hid (right_ok (knownL_right l))
  have HOK2 := hid (right_ok (knownL_right k))
  have hl1 := knownL_len l
  rw [← h1.1] at hl1
  have hl2 := knownL_len k
  rw [← h2.1] at hl2
  have H2 := hid h2
  generalize knownL l = l0 at *
  generalize knownL k = k0 at *
  clear h1 h2 h321 h322
  go_enter Try.func12, Try.ntmps12
  go_wp2_with fail
  refine HK1.out.mono ?_
  rintro e w1 ⟨A1, m1, d1, rfl, hr1, hb1⟩
  have HR1 := hid hr1
  have HB1 := hid hb1
  clear hr1 hb1 HK1
  go_wp2_with fail
  refine (HK2.out w1 (H2.out.below HB1.out (Nat.le_refl _))).mono ?_
  rintro e w2 ⟨A2, m2, d2, rfl, hr2, hb2⟩
  have HR2 := hid hr2
  have HR1' := hid (HR1.out.below hb2 (Nat.le_refl _))
  have HB2 := hid (HB1.out.trans (hb2.mono HB1.out.size))
  clear hr2 hb2 HK2 HB1 HR1
  have hB2 := HB2.out.size
  go_wp2_with fail
  go_loopg [0, 1, 5] (m1 + m2) (fun kx s0 s1 s5 wr => ∃ (n c : Nat) (A : Option Addr) (out : List Rg) (p1 : Option Addr) (r1 q1 : Nat) (l : List Rg) (p2 : Option Addr) (r2 q2 : Nat) (k : List Rg), s0 = .slice p1 r1 q1 ∧ s1 = .slice p2 r2 q2 ∧ s5 = .slice A n c ∧ r1 + r2 ≤ kx ∧ n + r1 + r2 ≤ m1 + m2 ∧ r1 ≤ m1 ∧ r2 ≤ m2 ∧ Hid (n = out.length) ∧ Hid (wr.ownsRow w2.heap.size 48 2 (.slice A n c) n (out.flatMap rgCells)) ∧ Hid (Below w2.heap.size w2 wr) ∧ Hid (RR w2 p1 r1 q1 l) ∧ Hid (RR w2 p2 r2 q2 k) ∧ Hid (cutR l0 k0 = out ++ cutR l k) ∧ Hid (∀ x ∈ l, okR x) ∧ Hid (∀ x ∈ k, okR x))
  case atStart => exact ⟨0, 0, none, [], _, _, _, l0, _, _, _, k0, rfl, rfl, rfl, Nat.le_refl _, by omega, Nat.le_refl _, Nat.le_refl _, rfl, World.ownsRow_nil _ _ _ _, Below.refl _ _, HR1'.out, HR2.out, rfl, HOK1.out, HOK2.out⟩
  case round =>
    obtain ⟨n, c, A, out, p1, r1, q1, l, p2, r2, q2, k, rfl, rfl, rfl, hg, hnm, hr1m, hr2m, HN, HROW, HB, HL, HKK, HC, HO1, HO2⟩ := hrel
    have hszr := HB.out.size
    have hm1 : m1 ≤ 400000 := by have := HR1'.out.1; omega
    have hm2 : m2 ≤ 400000 := by have := HR2.out.1; omega
    cases l with
    | nil =>
      obtain rfl : r1 = 0 := HL.out.1
      have HE := hid (show cutR l0 k0 = out by rw [HC.out, cutR_nil1, List.append_nil])
      go_wp2_with fail
      go_ret
      refine ⟨_, _, _, rfl, ?_, HB2.out.trans (HB.out.mono hB2)⟩
      rw [HE.out]
      exact RR.of_own HROW.out
    | cons x l =>
      have hr1p : 0 < r1 := by have := HL.out.1; rw [List.length_cons] at this; omega
      have hr1i : (0 : Int) < (r1 : Int) := by omega
      cases k with
      | nil =>
        obtain rfl : r2 = 0 := HKK.out.1
        have HE := hid (show cutR l0 k0 = out by rw [HC.out, cutR_nil2, List.append_nil])
        go_wp2_with fail
        go_ret
        refine ⟨_, _, _, rfl, ?_, HB2.out.trans (HB.out.mono hB2)⟩
        rw [HE.out]
        exact RR.of_own HROW.out
      | cons y k =>
        have hr2p : 0 < r2 := by have := HKK.out.1; rw [List.length_cons] at this; omega
        have hr2i : (0 : Int) < (r2 : Int) := by omega
        obtain ⟨b1, o1, rfl, hbl1, x0, x1⟩ := (HL.out.below HB.out (Nat.le_refl _)).at (i := 0) (by simp)
        obtain ⟨b2, o2, rfl, hbl2, y0, y1⟩ := (HKK.out.below HB.out (Nat.le_refl _)).at (i := 0) (by simp)
        have hq1 := HL.out.2.1
        have hq2 := HKK.out.2.1
        have ht1 := fun W => rg_tail b1 o1 r1 q1 (by omega) hq1 W
        have ht2 := fun W => rg_tail b2 o2 r2 q2 (by omega) hq2 W
        have HT1 := hid HL.out.tail
        have HT2 := hid HKK.out.tail
        have hcs := cutR_step x y l k
        simp only [List.getElem_cons_zero, Nat.zero_mul, Nat.add_zero] at x0 x1 y0 y1
        obtain ⟨xl, xh⟩ := x
        obtain ⟨yl, yh⟩ := y
        obtain ⟨u1, u2, u3⟩ := HO1.out (xl, xh) (List.mem_cons_self ..)
        obtain ⟨v1, v2, v3⟩ := HO2.out (yl, yh) (List.mem_cons_self ..)
        simp only at x0 x1 y0 y1 u1 u2 u3 v1 v2 v3
        have HCS := hid hcs
        clear hcs
        go_upto_region 4 with fail
        go_region
        have hxx : max xl yl = max xl yl := rfl
        obtain ⟨mx, hmx⟩ : ∃ mx, mx = max xl yl := ⟨_, rfl⟩
        obtain ⟨mn, hmn⟩ : ∃ mn, mn = min xh yh := ⟨_, rfl⟩
        have hcO : cutO (xl, xh) (yl, yh) = if mx ≤ mn then [(mx, mn)] else [] := by rw [hmx, hmn]; rfl
        have HROW5 := hid (show ((wr.alloc (.cells #[.int .i32 (max xl yl), .int .i32 (min xh yh)] 48)).drew).ownsRow w2.heap.size 48 2 (.slice A n c) n (out.flatMap rgCells) from HROW.out.alloc _)
        have HB5 := hid (show Below w2.heap.size w2 ((wr.alloc (.cells #[.int .i32 (max xl yl), .int .i32 (min xh yh)] 48)).drew) from (HB.out.alloc hszr _).drew)
        have hx0 : ((wr.alloc (.cells #[.int .i32 (max xl yl), .int .i32 (min xh yh)] 48)).drew).cell? ⟨wr.heap.size, 0, none⟩ = some (.int .i32 (max xl yl)) := (Blk.new wr _ _).cell 0
        have hx1 : ((wr.alloc (.cells #[.int .i32 (max xl yl), .int .i32 (min xh yh)] 48)).drew).cell? ⟨wr.heap.size, 1, none⟩ = some (.int .i32 (min xh yh)) := (Blk.new wr _ _).cell 1
        go_upto_region 5 with fail
        generalize (wr.alloc (.cells #[.int .i32 (max xl yl), .int .i32 (min xh yh)] 48)).drew = w5 at *
        have b1x : mx = xl ∨ mx = yl := by omega
        have b1y : mn = xh ∨ mn = yh := by omega
        have b3 : 0 ≤ mx ∧ mn ≤ 1114111 := by omega
        rw [← hmx] at hx0
        rw [← hmn] at hx1
        rw [← hmx, ← hmn]
        have HMX := hid hmx
        have HMN := hid hmn
        have HCO := hid hcO
        have hs5 := HB5.out.size
        have hbl1 : b1 < w2.heap.size := by obtain ⟨b', o', e, h, _⟩ := HL.out.2.2.2 hr1p; injection e with e; injection e with e _; omega
        have hbl2 : b2 < w2.heap.size := by obtain ⟨b', o', e, h, _⟩ := HKK.out.2.2.2 hr2p; injection e with e; injection e with e _; omega
        have z1 := (HL.out.get (i := 0) (by simp)).2
        have z2 := (HKK.out.get (i := 0) (by simp)).2
        simp only [List.getElem_cons_zero, Nat.zero_mul, Nat.add_zero] at z1 z2
        have hM1 := fun (W : World) (h : Below w2.heap.size w2 W) => (h.cell (p := ⟨b1, o1 + 1, none⟩) hbl1).trans z1
        have hM2 := fun (W : World) (h : Below w2.heap.size w2 W) => (h.cell (p := ⟨b2, o2 + 1, none⟩) hbl2).trans z2
        have HM1 := hid hM1
        have HM2 := hid hM2
        clear hmx hmn hcO hxx x0 x1 y0 y1 z1 z2 hM1 hM2
        by_cases hc : mx ≤ mn
        · have HCC := hid hc
          go_upto_region 6 with fail
          go_wp2_with (at_builtin; refine wpList_append_any _ rfl (.tmp 43) (.tmp 45) 23 rfl w2.heap.size 48 i0 (.agg #[.int .i32 0, .int .i32 0]) 2 8 Try.underlying23 hi hz0 hz1 hz2 rfl (by decide) _ n (out.flatMap rgCells) rfl (HROW5.out.alloc _) _ _ 1 1 [.int .i32 mx, .int .i32 mn] rfl (reads_blk2 (Blk.new w5 _ _)) (by simp [Value.oneCell']) (by unfold maxLen; omega) (by omega) (by simp; omega) ?_; intro v1 w7 ho7 hg7 hq7; have HB7 := hid ((HB5.out.alloc hs5 _).grown hg7 (by simp; omega) (own_ge HROW5.out)); obtain ⟨A7, c7, rfl⟩ := owns_slice ho7; have HO7 := hid ho7; clear ho7 hg7 hq7)
          by_cases hd : xh < yh
          · have HN2 := hid (show cutR l0 k0 = (out ++ [(mx, mn)]) ++ cutR l ((yl, yh) :: k) by rw [HC.out, HCS.out, HCO.out, if_pos HCC.out, if_pos hd]; simp)
            have hdd : decide (xh < yh) = true := decide_eq_true hd
            have HD := hid hd
            clear hd
            have y1 := HM1.out w7 HB7.out
            have y2 := HM2.out w7 HB7.out
            go_upto_region 7 with fail
            go_quiet (fail)
            go_wp2_with fail
            go_roundg (r1 - 1 + r2)
            case measure => omega
            case rel => exact ⟨n + 1, _, _, (out ++ [(mx, mn)]), _, _, _, _, _, _, _, _, rfl, rfl, rfl, by omega, by omega, by omega, by omega, (by show n + 1 = _; rw [List.length_append, ← HN.out]; rfl), (by show World.ownsRow _ _ _ _ _ _ _; rw [flat_snoc]; exact HO7.out), HB7.out.trans (below_drewN _ _ _), HT1, HKK, HN2, fun x hx => HO1.out x (List.mem_cons_of_mem _ hx), HO2⟩
          · have HN2 := hid (show cutR l0 k0 = (out ++ [(mx, mn)]) ++ cutR ((xl, xh) :: l) k by rw [HC.out, HCS.out, HCO.out, if_pos HCC.out, if_neg hd]; simp)
            have hdd : decide (xh < yh) = false := decide_eq_false hd
            have HD := hid hd
            clear hd
            have y1 := HM1.out w7 HB7.out
            have y2 := HM2.out w7 HB7.out
            go_upto_region 7 with fail
            go_quiet (fail)
            go_wp2_with fail
            go_roundg (r1 + (r2 - 1))
            case measure => omega
            case rel => exact ⟨n + 1, _, _, (out ++ [(mx, mn)]), _, _, _, _, _, _, _, _, rfl, rfl, rfl, by omega, by omega, by omega, by omega, (by show n + 1 = _; rw [List.length_append, ← HN.out]; rfl), (by show World.ownsRow _ _ _ _ _ _ _; rw [flat_snoc]; exact HO7.out), HB7.out.trans (below_drewN _ _ _), HL, HT2, HN2, HO1, fun x hx => HO2.out x (List.mem_cons_of_mem _ hx)⟩
        · have HCC := hid hc
          go_upto_region 7 with fail
          by_cases hd : xh < yh
          · have HN2 := hid (show cutR l0 k0 = out ++ cutR l ((yl, yh) :: k) by rw [HC.out, HCS.out, HCO.out, if_neg HCC.out, if_pos hd]; simp)
            have hdd : decide (xh < yh) = true := decide_eq_true hd
            have HD := hid hd
            clear hd
            have y1 := HM1.out w5 HB5.out
            have y2 := HM2.out w5 HB5.out
            go_upto_region 7 with fail
            go_quiet (fail)
            go_wp2_with fail
            go_roundg (r1 - 1 + r2)
            case measure => omega
            case rel => exact ⟨n, _, _, out, _, _, _, _, _, _, _, _, rfl, rfl, rfl, by omega, by omega, by omega, by omega, HN, HROW5.out, HB5.out.trans (below_drewN _ _ _), HT1, HKK, HN2, fun x hx => HO1.out x (List.mem_cons_of_mem _ hx), HO2⟩
          · have HN2 := hid (show cutR l0 k0 = out ++ cutR ((xl, xh) :: l) k by rw [HC.out, HCS.out, HCO.out, if_neg HCC.out, if_neg hd]; simp)
            have hdd : decide (xh < yh) = false := decide_eq_false hd
            have HD := hid hd
            clear hd
            have y1 := HM1.out w5 HB5.out
            have y2 := HM2.out w5 HB5.out
            go_upto_region 7 with fail
            go_quiet (fail)
            go_wp2_with fail
            go_roundg (r1 + (r2 - 1))
            case measure => omega
            case rel => exact ⟨n, _, _, out, _, _, _, _, _, _, _, _, rfl, rfl, rfl, by omega, by omega, by omega, by omega, HN, HROW5.out, HB5.out.trans (below_drewN _ _ _), HL, HT2, HN2, HO1, fun x hx => HO2.out x (List.mem_cons_of_mem _ hx)⟩
end Go.Proofs.Ytbkjanlkklmleaa
