/- Chapter 03: what New asks of its entries: the walks. -/
import Derived.Test.YtbkjanlkklmleaaTrB
import Derived.Test.YtbkjanlkklmleaaPsA
namespace Go.Proofs.Ytbkjanlkklmleaa
open Go.RowKit
open Go.Lib (hid)
set_option linter.unusedVariables false
set_option linter.unusedSimpArgs false
set_option maxRecDepth 100000

theorem trclass_any (n : Int) (h0 : 0 ≤ n) (h1 : n ≤ 255) (w : World) : Calls Try.prog 40 #[.int .i64 n] w fun e w' => e = .returned (.bool true) ∧ w' = w := by
  go_enter Try.func40, Try.ntmps40
  go_wp2_with fail
  go_ret
  simp
set_option maxHeartbeats 1000000 in
theorem badent_any (A : Option Addr) (m cs : Nat) (l : List Rg) (c : Int) (w : World) (hl : RR w A m cs l) (hm : m ≤ 1000000) (hr : rightR l) (h0 : 0 ≤ c) (h1 : c ≤ 255) :
    Calls Try.prog 42 #[.agg #[.slice A m cs, .int .i64 c]] w fun e w' => e = .returned (.bool false) ∧ Below w.heap.size w w' := by
  have HC := hid (fun W => trclass_any c h0 h1 W)
  have HR := hid (fun W (h : Below w.heap.size w W) => isright_any A m cs l W (hl.below h (Nat.le_refl _)) hm (in32_right hr))
  have HB := hid (show rightB l = true from (rightB_iff l).2 hr)
  have hbk := Blk.new w 61 #[.slice A m cs, .int .i64 c]
  have y0 := hbk.cell 0
  have y1 := hbk.cell 1
  simp only [List.getElem?_toArray, List.getElem?_cons_zero, List.getElem?_cons_succ] at y0 y1
  have HBW := hid ((Below.refl w.heap.size w).alloc (Nat.le_refl _) (.cells #[.slice A m cs, .int .i64 c] 61))
  clear hl hbk
  go_enter Try.func42, Try.ntmps42
  go_wp2_with fail
  refine (HC.out _).mono ?_
  rintro e w2 ⟨rfl, hw⟩
  subst hw
  go_wp2_with fail
  refine (HR.out _ HBW.out).mono ?_
  rintro e w3 ⟨rfl, hb3⟩
  have HB3 := hid (HBW.out.trans (hb3.mono HBW.out.size))
  rw [HB.out]
  clear hb3
  go_wp2_with fail
  go_ret
  exact ⟨rfl, HB3.out⟩
/-- Entries that may be. -/
def EntOk (n : Nat) (E : Nat → List Rg × Int) : Prop := ∀ i, i < n → rightR (E i).1 ∧ 0 ≤ (E i).2 ∧ (E i).2 ≤ 255
set_option maxHeartbeats 1000000 in
theorem trindex_any (le n cap : Nat) (E : Nat → List Rg × Int) (w : World) (he : EntR w le n E) (hn : n ≤ 200) (hk : EntOk n E) :
    Calls Try.prog 50 #[.slice (some ⟨le, 0, none⟩) n cap, .func (.func 42) #[] #[]] w fun e w' => e = .returned (.int .i64 (-1)) ∧ Below w.heap.size w w' := by
  have HE := hid (fun W (h : Below w.heap.size w W) => he.below h)
  have HK := hid hk
  clear he hk
  go_enter Try.func50, Try.ntmps50
  go_wp2_with fail
  go_loopg [8] n (fun kx s8 wr => ∃ i : Nat, s8 = .int .i64 i ∧ i ≤ n ∧ n - i ≤ kx ∧ Hid (Below w.heap.size w wr))
  case atStart => exact ⟨0, rfl, Nat.zero_le _, by omega, Below.refl _ _⟩
  case round =>
    obtain ⟨i, rfl, hi, hg, HB⟩ := hrel
    by_cases hlt : i < n
    · have hlt' : (i : Int) < (n : Int) := by omega
      obtain ⟨A, m, cs, x0, xr, xm, x1⟩ := (HE.out wr HB.out).2 i hlt
      obtain ⟨k1, k2, k3⟩ := HK.out i hlt
      have HR := hid (badent_any A m cs (E i).1 (E i).2 wr xr xm k1 k2 k3)
      clear xr k1
      go_wp2_with fail
      refine HR.out.mono ?_
      rintro e w2 ⟨rfl, hb⟩
      have HB2 := hid (HB.out.trans (hb.mono HB.out.size))
      clear hb
      go_wp2_with fail
      go_roundg (n - (i + 1))
      case measure => omega
      case rel => exact ⟨i + 1, by go_num, by omega, Nat.le_refl _, HB2⟩
    · have hlt' : ¬ (i : Int) < (n : Int) := by omega
      clear hi hg hlt
      go_wp2_with fail
      go_ret
      exact ⟨rfl, HB.out⟩
theorem trcontains_any (le n cap : Nat) (E : Nat → List Rg × Int) (w : World) (he : EntR w le n E) (hn : n ≤ 200) (hk : EntOk n E) :
    Calls Try.prog 41 #[.slice (some ⟨le, 0, none⟩) n cap, .func (.func 42) #[] #[]] w fun e w' => e = .returned (.bool false) ∧ Below w.heap.size w w' := by
  have H := hid (trindex_any le n cap E w he hn hk)
  clear he
  go_enter Try.func41, Try.ntmps41
  go_wp2_with fail
  refine H.out.mono ?_
  rintro e w2 ⟨rfl, hb⟩
  have HB := hid hb
  clear hb
  go_wp2_with fail
  go_ret
  exact ⟨rfl, HB.out⟩
end Go.Proofs.Ytbkjanlkklmleaa
