/- Chapter 03: (*builder).paint, (*builder).at: the walks. -/
import Derived.Test.YtbkjanlkklmleaaTrB
namespace Go.Proofs.Ytbkjanlkklmleaa
open Go.RowKit
open Go.Lib (hid)
set_option linter.unusedVariables false
set_option linter.unusedSimpArgs false
set_option maxRecDepth 100000

/-- A block of 256 bytes, as an array. -/
def mkA (f : Nat → Int) : Array Value := ((List.range 256).map fun k => Value.int .u8 (f k)).toArray
theorem mkA_size (f : Nat → Int) : (mkA f).size = 256 := by simp [mkA]
theorem mkA_get (f : Nat → Int) (k : Nat) (hk : k < 256) : (mkA f)[k]? = some (.int .u8 (f k)) := by simp [mkA, hk]
theorem mkA_congr {f h : Nat → Int} (e : ∀ k, k < 256 → f k = h k) : mkA f = mkA h := by
  unfold mkA
  congr 1
  exact List.map_congr_left fun k hk => by rw [e k (List.mem_range.1 hk)]
theorem mkA_set (f : Nat → Int) (k : Nat) (hk : k < 256) (v : Int) : (mkA f).setIfInBounds k (.int .u8 v) = mkA (updN f k v) := by
  apply Array.ext_getElem?
  intro i
  rw [Array.getElem?_setIfInBounds]
  by_cases e : k = i
  · subst e
    rw [if_pos rfl, mkA_size, if_pos hk, mkA_get _ _ hk, updN_at]
  · rw [if_neg e]
    rcases Nat.lt_or_ge i 256 with h | h
    · rw [mkA_get _ _ h, mkA_get _ _ h, show updN f k v i = f i from if_neg (fun e2 => e e2.symm)]
    · rw [Array.getElem?_eq_none (by rw [mkA_size]; exact h), Array.getElem?_eq_none (by rw [mkA_size]; exact h)]
theorem mkA_zero : mkA (fun _ => 0) = (List.replicate 256 (Value.int .u8 0)).toArray := by kernel_rfl
/-- What a painted block is. -/
def pF (l : List Rg) (c : Int) (p : Nat) (f : Nat → Int) (k : Nat) : Int := if inB l ((p : Int) * 256 + k) = true then c else f k
theorem pF_nil (c : Int) (p : Nat) (f : Nat → Int) (k : Nat) : pF [] c p f k = f k := rfl
theorem inB_snoc (l : List Rg) (x : Rg) (r : Int) : inB (l ++ [x]) r = true ↔ inB l r = true ∨ (x.1 ≤ r ∧ r ≤ x.2) := by
  rw [inB_iff, inB_iff]
  constructor
  · rintro ⟨y, hy, h⟩
    rcases List.mem_append.1 hy with hy | hy
    · exact .inl ⟨y, hy, h⟩
    · rw [List.mem_singleton.1 hy] at h; exact .inr h
  · rintro (⟨y, hy, h⟩ | h)
    · exact ⟨y, List.mem_append.2 (.inl hy), h⟩
    · exact ⟨x, by simp, h⟩
/-- The range under way, up to r. -/
theorem pF_begin (l : List Rg) (c : Int) (p : Nat) (f : Nat → Int) (lo r : Int) (hr : r = max lo ((p : Int) * 256)) (k : Nat) : pF (l ++ [(lo, r - 1)]) c p f k = pF l c p f k := by
  unfold pF
  have := inB_snoc l (lo, r - 1) ((p : Int) * 256 + k)
  simp only at this
  by_cases h : inB l ((p : Int) * 256 + k) = true
  · rw [if_pos h, if_pos (this.2 (.inl h))]
  · rw [if_neg h, if_neg fun e => (this.1 e).elim h (by omega)]
theorem pF_step (l : List Rg) (c : Int) (p : Nat) (f : Nat → Int) (lo r : Int) (k0 : Nat) (hr : r = (p : Int) * 256 + k0) (hl : lo ≤ r) (k : Nat) : pF (l ++ [(lo, r)]) c p f k = updN (pF (l ++ [(lo, r - 1)]) c p f) k0 c k := by
  unfold updN pF
  have h1 := inB_snoc l (lo, r) ((p : Int) * 256 + k)
  have h2 := inB_snoc l (lo, r - 1) ((p : Int) * 256 + k)
  simp only at h1 h2
  by_cases e : k = k0
  · subst e
    rw [if_pos rfl, if_pos (h1.2 (.inr (by omega)))]
  · rw [if_neg e]
    by_cases h : inB (l ++ [(lo, r - 1)]) ((p : Int) * 256 + k) = true
    · rw [if_pos h, if_pos (h1.2 ((h2.1 h).imp id fun h => by omega))]
    · rw [if_neg h, if_neg fun e3 => h (h2.2 ((h1.1 e3).imp id fun h => by omega))]
theorem pF_end (l : List Rg) (c : Int) (p : Nat) (f : Nat → Int) (lo hi r : Int) (hr : min hi ((p : Int) * 256 + 255) < r) (hr2 : r ≤ max (max lo ((p : Int) * 256)) (min hi ((p : Int) * 256 + 255) + 1)) (hlh : lo ≤ hi) (k : Nat) (hk : k < 256) : pF (l ++ [(lo, r - 1)]) c p f k = pF (l ++ [(lo, hi)]) c p f k := by
  unfold pF
  have h1 := inB_snoc l (lo, r - 1) ((p : Int) * 256 + k)
  have h2 := inB_snoc l (lo, hi) ((p : Int) * 256 + k)
  simp only at h1 h2
  by_cases h : inB (l ++ [(lo, hi)]) ((p : Int) * 256 + k) = true
  · rw [if_pos h, if_pos (h1.2 ((h2.1 h).imp id fun h => by omega))]
  · rw [if_neg h, if_neg fun e3 => h (h2.2 ((h1.1 e3).imp id fun h => by omega))]
set_option maxHeartbeats 8000000 in
theorem paint_any (W0 : World) (g ob le c nE i p : Nat) (E : Nat → List Rg × Int) (f : Nat → Int) (w : World) (he : EntR W0 le nE E) (hbw : Below W0.heap.size W0 w) (hc0 : w.cell? ⟨g, 0, none⟩ = some (.slice (some ⟨le, 0, none⟩) nE c)) (hgl : g < w.heap.size) (hob : Blk w ob 71 (mkA f)) (hog : ob ≠ g) (hoB : W0.heap.size ≤ ob) (hi : i < nE) (hn : nE ≤ 200) (hR : okL (E i).1) (hC : 0 ≤ (E i).2 ∧ (E i).2 ≤ 255) (hp : p < 4352) :
    Calls Try.prog 51 #[.pointer (some ⟨g, 0, none⟩), .pointer (some ⟨ob, 0, none⟩), .int .i64 i, .int .i64 p] w fun e w' => e = .returned (.tuple #[]) ∧ Blk w' ob 71 (mkA (pF (E i).1 (E i).2 p f)) ∧ w.grownBy w' (some ob) := by
  obtain ⟨A, m, cs, y0, yrr, hm, y1⟩ := he.2 i hi
  have hole : ob ≠ le := by have := he.1; omega
  have hle : le < w.heap.size := Nat.lt_of_lt_of_le he.1 hbw.size
  have y0 := (hbw.cell (p := ⟨le, i * 2, none⟩) he.1).trans y0
  have y1 := (hbw.cell (p := ⟨le, i * 2 + 1, none⟩) he.1).trans y1
  have HRR := hid (fun w' (h : w.grownBy w' (some ob)) => yrr.below (hbw.grown h hbw.size (fun j e => by injection e with e; omega)) (Nat.le_refl _))
  have hmn := yrr.1
  have HMN := hid hmn
  have HRI := hid hR
  have hii' : (i : Int) < (nE : Int) := by omega
  have hcw : IntKind.u8.wrap (E i).2 = (E i).2 := by unfold IntKind.wrap; simp [IntKind.signed, IntKind.bits]; omega
  have HOB := hid hob
  have HCK := hid (fun w' (h : w.grownBy w' (some ob)) => (show w'.cell? ⟨g, 0, none⟩ = some (.slice (some ⟨le, 0, none⟩) nE c) ∧ w'.cell? ⟨le, i * 2, none⟩ = some (.slice A m cs) ∧ w'.cell? ⟨le, i * 2 + 1, none⟩ = some (.int .i64 (E i).2) from ⟨(h.cell_far ⟨g, 0, none⟩ hgl (fun e => hog (by injection e with e; exact e.symm))).trans hc0, (h.cell_far ⟨le, i * 2, none⟩ hle (fun e => hole (by injection e with e; exact e.symm))).trans y0, (h.cell_far ⟨le, i * 2 + 1, none⟩ hle (fun e => hole (by injection e with e; exact e.symm))).trans y1⟩))
  obtain ⟨cl, hcl⟩ : ∃ cl, cl = (E i).2 := ⟨_, rfl⟩
  rw [← hcl] at hcw hC y1 HCK
  have HCL := hid hcl
  have HOBL := hid hob.lt
  clear he hbw hob hR yrr hmn hcl
  go_enter Try.func51, Try.ntmps51
  go_wp2_with fail
  go_loopg [20] m (fun kx s20 wr => ∃ (j : Nat) (h : Nat → Int), s20 = .int .i64 j ∧ j ≤ m ∧ m - j ≤ kx ∧ Hid (Blk wr ob 71 (mkA h)) ∧ Hid (∀ k, k < 256 → h k = pF ((E i).1.take j) cl p f k) ∧ Hid (w.grownBy wr (some ob)))
  case atStart => exact ⟨0, f, rfl, Nat.zero_le _, Nat.le_refl _, HOB.out, fun k _ => (pF_nil _ _ _ _).symm, World.grownBy.refl _ _⟩
  case round =>
    obtain ⟨j, h, rfl, hj1, hgm, HB, HH, HG⟩ := hrel
    obtain ⟨wo, rfl⟩ : ∃ wo, wo = wr := ⟨_, rfl⟩
    by_cases hlt : j < m
    · have hlt' : (j : Int) < (m : Int) := by omega
      have hjl : j < (E i).1.length := by rw [← HMN.out]; exact hlt
      obtain ⟨bR, oR, rfl, hbl, z0, z1⟩ := (HRR.out wo HG.out).at hjl
      have hr0 := HRI.out _ (List.getElem_mem hjl)
      have htk : (E i).1.take (j + 1) = (E i).1.take j ++ [(E i).1[j]] := by rw [List.take_add_one, List.getElem?_eq_getElem hjl]; rfl
      have HTK := hid htk
      clear htk
      generalize (E i).1[j] = x at *
      obtain ⟨lo, hi2⟩ := x
      simp only at z0 z1 hr0
      obtain ⟨r1, r2, r3⟩ := hr0
      have hbk := Blk.new wo 48 #[.int .i32 lo, .int .i32 hi2]
      have HQ := hid hbk
      have hqob : wo.heap.size ≠ ob := by have := HB.out.lt; omega
      have HB4 := hid (HB.out.alloc (.cells #[.int .i32 lo, .int .i32 hi2] 48))
      have HG4 := hid (HG.out.trans (World.grownBy_alloc wo (.cells #[.int .i32 lo, .int .i32 hi2] 48) (some ob)))
      have y0 := hbk.cell 0
      have y1 := hbk.cell 1
      simp only [List.getElem?_toArray, List.getElem?_cons_zero, List.getElem?_cons_succ] at y0 y1
      obtain ⟨r0, hr0⟩ : ∃ r0 : Nat, max lo ((p : Int) * 256) = (r0 : Int) := ⟨(max lo ((p : Int) * 256)).toNat, by omega⟩
      have hr0b : r0 ≤ 1114111 := by omega
      have HR0 := hid hr0
      obtain ⟨rE, hrE⟩ : ∃ rE : Nat, min hi2 ((p : Int) * 256 + 255) = (rE : Int) := ⟨(min hi2 ((p : Int) * 256 + 255)).toNat, by omega⟩
      have HRE := hid hrE
      have hrE2 : min hi2 ((p : Int) * 256 + 256 - 1) = (rE : Int) := by rw [← hrE]; congr 1; omega
      have hrEb : rE ≤ p * 256 + 255 := by omega
      clear hjl hbk
      go_upto_region 3 with fail
      generalize wo.alloc (.cells #[.int .i32 lo, .int .i32 hi2] 48) = w4 at *
      generalize wo.heap.size = q4 at *
      have HB0 := hid (fun k (hk : k < 256) => (HH.out k hk).trans (pF_begin ((E i).1.take j) cl p f lo (r0 : Int) hr0.symm k).symm)
      go_wp2_with fail
      go_loopg [10] 256 (fun kx s10 wr => ∃ (r : Nat) (h : Nat → Int), s10 = .int .i64 r ∧ r0 ≤ r ∧ r ≤ max r0 (rE + 1) ∧ p * 256 + 256 - r ≤ kx ∧ Hid (Blk wr ob 71 (mkA h)) ∧ Hid (∀ k, k < 256 → h k = pF ((E i).1.take j ++ [(lo, (r : Int) - 1)]) cl p f k) ∧ Hid (w.grownBy wr (some ob)) ∧ Hid (Blk wr q4 48 #[.int .i32 lo, .int .i32 hi2]))
      case atStart => exact ⟨r0, h, rfl, Nat.le_refl _, by omega, by omega, HB4.out, HB0.out, HG4.out, HQ.out⟩
      case round =>
        obtain ⟨r, h2, rfl, hq1, hq2, hgq, HB3, HH3, HG3, HQ3⟩ := hrel
        have y0 := HQ3.out.cell 0
        have y1 := HQ3.out.cell 1
        simp only [List.getElem?_toArray, List.getElem?_cons_zero, List.getElem?_cons_succ] at y0 y1
        by_cases hrr : r ≤ rE
        · have hrr' : (r : Int) ≤ (rE : Int) := by omega
          obtain ⟨k0, hk0⟩ : ∃ k0 : Nat, (r : Int) = (p : Int) * 256 + k0 := ⟨r - p * 256, by omega⟩
          have hk0b : k0 < 256 := by omega
          have hsub : (r : Int) - (p : Int) * 256 = (k0 : Int) := by omega
          have hk0c : (k0 : Int) < 256 := by omega
          obtain ⟨c0, c1, c2⟩ := HCK.out wr HG3.out
          have c0d : wr.drew.cell? ⟨g, 0, none⟩ = _ := c0
          have c2d : wr.drew.cell? ⟨le, i * 2 + 1, none⟩ = _ := c2
          have e0 := (HB3.out.cell k0).trans (mkA_get h2 k0 hk0b)
          have e0d : wr.drew.cell? ⟨ob, k0, none⟩ = _ := e0
          have f0 := HB3.out.frozen k0
          have f0d : wr.drew.frozen? ⟨ob, k0, none⟩ = false := f0
          have HBN := hid (show Blk (wr.setCell ⟨ob, k0, none⟩ (.int .u8 cl)) ob 71 (mkA (updN h2 k0 cl)) from by rw [← mkA_set h2 k0 hk0b cl]; exact HB3.out.set_ k0 (.int .u8 cl))
          have HHN := hid (show ∀ k, k < 256 → updN h2 k0 cl k = pF ((E i).1.take j ++ [(lo, ((r + 1 : Nat) : Int) - 1)]) cl p f k from fun k hk => by
            rw [show ((r + 1 : Nat) : Int) - 1 = (r : Int) by omega, pF_step _ _ _ _ lo (r : Int) k0 hk0 (by have := HR0.out; omega) k]
            unfold updN
            split
            · rfl
            · exact HH3.out k hk)
          have HGN := hid (HG3.out.trans (grown_set wr ob k0 (.int .u8 cl)))
          have HQN := hid (HQ3.out.far (p := ⟨ob, k0, none⟩) (fun e => hqob e) (.int .u8 cl))
          clear hk0 HB3 HH3 HG3 HQ3
          go_upto_region 6 with fail
          go_region
          go_wp2_with fail
          go_roundg (p * 256 + 256 - (r + 1))
          case measure => omega
          case rel => exact ⟨r + 1, _, by go_num, by omega, by omega, Nat.le_refl _, HBN.out, HHN.out, ⟨HGN.out.os, HGN.out.tape, HGN.out.output, HGN.out.size, HGN.out.block⟩, HQN.out⟩
        · have hrr' : ¬ (r : Int) ≤ (rE : Int) := by omega
          have HE2 := hid (fun k (hk : k < 256) => (HH3.out k hk).trans (pF_end ((E i).1.take j) cl p f lo hi2 (r : Int) (by have := HRE.out; omega) (by have := HRE.out; have := HR0.out; omega) r2 k hk))
          rw [← HTK.out] at HE2
          go_wp2_with fail
          go_roundg (m - (j + 1))
          case measure => omega
          case rel => exact ⟨j + 1, h2, by go_num, by omega, Nat.le_refl _, HB3.out, HE2.out, HG3.out⟩
    · have hlt' : ¬ ((j : Int) < (m : Int)) := by omega
      have hall : (E i).1.take j = (E i).1 := List.take_of_length_le (by have := HMN.out; omega)
      rw [hall] at HH
      clear hall hlt
      go_wp2_with fail
      go_end0
      refine ⟨rfl, ?_, HG.out⟩
      rw [← HCL.out, ← mkA_congr HH.out]
      exact HB.out
end Go.Proofs.Ytbkjanlkklmleaa
