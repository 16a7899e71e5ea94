/- The walk of the law PropTrie. -/
import Derived.Test.YtbkjanlkklmleaaTrH
namespace Go.Proofs.Ytbkjanlkklmleaa.propTrie
open Go.RowKit
open Go.Lib
set_option linter.unusedVariables false
set_option linter.unusedSimpArgs false
set_option maxRecDepth 100000

theorem i32w_of {w : World} {a : Option Addr} {len cap : Nat} {zs : List Int} (h : IsRow .i32 w a len cap zs) : ∃ D : List Int, len = D.length ∧ (∀ (i : Nat) (h : i < D.length), -2147483648 ≤ D[i] ∧ D[i] ≤ 2147483647) ∧ (0 < len → ∃ b off, a = some ⟨b, off, none⟩ ∧ b < w.heap.size ∧ ∀ (i : Nat) (h : i < D.length), w.cell? ⟨b, off + i, none⟩ = some (.int .i32 D[i])) := by
  rcases h with ⟨rfl, rfl, rfl, rfl⟩ | ⟨x, rfl, hl, hm, hz, hcell, hwz⟩
  · exact ⟨[], rfl, fun i h => absurd h (Nat.not_lt_zero _), fun h => absurd h (by decide)⟩
  · have hlen : (zs.take len).length = len := by rw [List.length_take]; omega
    refine ⟨zs.take len, hlen.symm, fun i hi => ?_, fun h0 => ?_⟩
    · have h1 := hwz _ (List.take_subset len zs (List.getElem_mem hi))
      simp only [Lit.wf, IntKind.min, IntKind.max, IntKind.signed, IntKind.bits, Bool.and_eq_true] at h1
      simp at h1
      simp only [List.getElem_take]
      omega
    obtain ⟨b, off, spot⟩ := x
    have hc := hcell 0 (by omega)
    have hspot : spot = none := by simpa [Addr.add] using World.cell?_spot hc
    subst hspot
    refine ⟨b, off, rfl, World.block_lt_of_cell? _ _ hc, fun i hi => ?_⟩
    rw [hlen] at hi
    have h1 := hcell i (by omega)
    rw [show (Addr.add ⟨b, off, none⟩ i) = ⟨b, off + i, none⟩ by unfold Addr.add; split <;> simp_all] at h1
    rw [h1]
    simp [show i < zs.length by omega]
theorem bel_next {w w' W : World} (h : Below w.heap.size w w') (hb : Below w'.heap.size w' W) : Below w.heap.size w W := h.trans (hb.mono h.size)
theorem cls_bnd (r : Int) : 0 ≤ C4.cls r ∧ C4.cls r ≤ 255 := by
  rcases cls_told r with h | ⟨c, h1, h2, h3, _⟩
  · rw [h]; exact ⟨by decide, by decide⟩
  · rw [h3]; omega
theorem get_cls (r : Int) : getV 0 (specN propE 0 35) r = C4.refCls r := by
  rw [← C4.cls_eq]
  unfold getV
  split
  · rename_i h
    exact spec_prop r h.1 h.2
  · rename_i h
    rcases cls_told r with h0 | ⟨c, h1, h2, h3, h4⟩
    · exact h0.symm
    · have := mem_num (right_ok (told_right c h2)) h4
      omega
theorem get_ref (gt : Nat) (W : World) (h : TrW W gt 0 (specN propE 0 35)) (r : Int) (hr : -2147483648 ≤ r ∧ r ≤ 2147483647) : Calls Try.prog 15 #[.pointer (some ⟨gt, 0, none⟩), .int .i32 r] W fun e w' => e = .returned (.int .i64 (C4.refCls r)) ∧ Below W.heap.size W w' := by
  rw [← get_cls r]
  exact trget_any gt 0 (specN propE 0 35) W h r hr (fun r a b => by rw [spec_prop r a b]; exact cls_bnd r)
theorem cls_A : C4.refCls 65 = 17 := by decide +kernel
set_option maxHeartbeats 4000000 in
theorem walk (l : Option Addr) (lLen lCap : Nat) (lD : List Int) (w : World) (w0 : IsRow .i32 w l lLen lCap lD) :
    Calls Try.prog 5 #[.slice l lLen lCap] w fun e w' => e = .returned (.bool true) ∧ Below w.heap.size w w' := by
  have HAW := hid (fun W => C4.awake04_any W)
  by_cases h60 : 60 < lLen
  · have h60' : (60 : Int) < (lLen : Int) := by omega
    clear w0
    go_enter Try.func5, Try.ntmps5
    go_wp2_with fail
    refine (HAW.out _).mono ?_
    rintro e w4 ⟨rfl, hb4⟩
    have HB4 := hid hb4
    clear hb4
    go_wp2_with fail
    go_ret
    exact ⟨rfl, HB4.out⟩
  have h60' : ¬ (60 : Int) < (lLen : Int) := by omega
  obtain ⟨D, hn, hr, hD⟩ := i32w_of w0
  have HN := hid hn
  have HR := hid hr
  have HD := hid hD
  have HPT := hid (fun W => proptrie_any W)
  have HGE := hid (fun gt W (h : TrW W gt 0 (specN propE 0 35)) r hr => get_ref gt W h r hr)
  have HRC := hid (fun r W => C4.refclass_any r W)
  clear w0 hn hr hD
  go_enter Try.func5, Try.ntmps5
  go_wp2_with fail
  refine (HAW.out _).mono ?_
  rintro e w4 ⟨rfl, hb4⟩
  have HB4 := hid hb4
  clear hb4
  go_wp2_with fail
  refine (HPT.out _).mono ?_
  rintro e w5 ⟨gt, rfl, ht, hb5⟩
  have HT := hid ht
  have HB5 := hid (HB4.out.trans (hb5.mono HB4.out.size))
  clear ht hb5
  go_wp2_with fail
  go_loopg [4] lLen (fun kx s4 wr => ∃ i : Nat, s4 = .int .i64 i ∧ i ≤ lLen ∧ lLen - i ≤ kx ∧ Hid (Below w5.heap.size w5 wr))
  case atStart => exact ⟨0, rfl, Nat.zero_le _, Nat.le_refl _, Below.refl _ _⟩
  case round =>
    obtain ⟨i, rfl, hi1, hgi, HB⟩ := hrel
    obtain ⟨wo, rfl⟩ : ∃ wo, wo = wr := ⟨_, rfl⟩
    by_cases hlt : i < lLen
    · have hlt' : (i : Int) < (lLen : Int) := by omega
      have hil : i < D.length := by have := HN.out; omega
      obtain ⟨b, off, rfl, hbl, hc⟩ := HD.out (by omega)
      have c0 := ((HB5.out.trans (HB.out.mono HB5.out.size)).cell (p := ⟨b, off + i, none⟩) hbl).trans (hc i hil)
      have hrr := HR.out i hil
      have hc5 := (HB5.out.cell (p := ⟨b, off + i, none⟩) hbl).trans (hc i hil)
      generalize D[i] = r at *
      have c0d : wo.drew.cell? ⟨b, off + i, none⟩ = _ := c0
      have HC5 := hid (fun W (h : Below w5.heap.size w5 W) => (show W.cell? ⟨b, off + i, none⟩ = some (.int .i32 r) from (h.cell (p := ⟨b, off + i, none⟩) (Nat.lt_of_lt_of_le hbl HB5.out.size)).trans hc5))
      have hBo : Below w5.heap.size w5 wo.drew := HB.out.trans ((below_drew1 _ wo).mono HB.out.size)
      have HRR := hid hrr
      clear hc hil hrr hc5
      go_upto_region 7 with fail
      go_region_held3 (fun w' : World => w'.cell? ⟨b, off + i, none⟩ = some (.int .i32 r) ∧ Below w5.heap.size w5 w')
        (first
          | exact ⟨c0d, hBo⟩
          | (go_split_ands
             have hbn := bel_next (w := w5) (by assumption) hb
             exact ⟨HC5.out _ hbn, hbn⟩))
        (first
          | (go_at_call 15; refine (HGE.out gt _ (HT.out.below (by first | assumption | (go_split_ands; assumption))) r HRR.out).mono ?_; rintro e w' ⟨rfl, hb⟩)
          | (go_at_call 16; refine (HRC.out r _).mono ?_; rintro e w' ⟨rfl, hb⟩))
      go_wp2_with fail
      go_roundg (lLen - (i + 1))
      case measure => omega
      case rel => exact ⟨i + 1, by go_num, by omega, Nat.le_refl _, by go_split_ands; assumption⟩
    · have hlt' : ¬ (i : Int) < (lLen : Int) := by omega
      have HG := hid (HGE.out gt wo (HT.out.below HB.out) 65 ⟨by decide, by decide⟩)
      have HB6 := hid (HB5.out.trans (HB.out.mono HB5.out.size))
      have HC17 := hid cls_A
      clear hlt hi1 hgi
      go_wp2_with fail
      refine HG.out.mono ?_
      rintro e w6 ⟨rfl, hb6⟩
      have HB7 := hid (HB6.out.trans (hb6.mono HB6.out.size))
      rw [HC17.out]
      clear hb6
      go_wp2_with fail
      go_ret
      exact ⟨rfl, HB7.out⟩
end Go.Proofs.Ytbkjanlkklmleaa.propTrie
