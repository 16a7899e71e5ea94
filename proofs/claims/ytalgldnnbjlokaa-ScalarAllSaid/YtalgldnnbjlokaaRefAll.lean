/- Walk of the document's All, chapter 01. -/
import Derived.Test.YtalgldnnbjlokaaProg
import Derived.Test.YtalgldnnbjlokaaAt
import Derived.Test.YtalgldnnbjlokaaPcs
import Derived.Maps.AppendAt
import Derived.OwnWalk
import Derived.Deep.AppendLies
namespace Go.Proofs.Ytalgldnnbjlokaa
open Go.RowKit
open Go.Lib (hid)

theorem info_piece : (Try.prog.info? 27).map (fun i => (i.zero, i.size, i.bytes)) = some (some (.agg #[.int .i32 0, .int .i64 0, .bool false]), 3, 24) := by kernel_rfl

def refCells (p : Pc) : List Value := [.int .i32 p.r, .int .i64 p.size, .bool p.whole]
theorem refCells_len : ∀ (l : List Pc), (l.flatMap refCells).length = l.length * 3
  | [] => rfl
  | p :: l => by rw [List.flatMap_cons, List.length_append, refCells_len l]; simp [refCells]; omega

set_option maxRecDepth 100000 in
set_option maxHeartbeats 4000000 in
theorem refall_any (a : Option Addr) (cap : Nat) (zs : List Int) (w : World) (hs : SB w a cap zs) (hbig : zs.length ≤ 1000000) :
    Calls Try.prog 12 #[.slice a zs.length cap] w fun e W' => ∃ v, e = .returned v ∧ W'.ownsRow w.heap.size 27 3 v (pcs zs).length ((pcs zs).flatMap refCells) ∧ Below w.heap.size w W' := by
  obtain ⟨i0, hi, hz0, hz1, hz2⟩ := info_parts info_piece
  have hlen := pcs_length zs
  have HS := hid hs
  clear hs
  go_enter Try.func12, Try.ntmps12
  go_wp2
  go_loopw [3, 4] (fun s3 s4 wr => ∃ (v : Value) (i : Nat) (pre : List Pc), s3 = v ∧ s4 = .int .i64 i ∧ i ≤ zs.length ∧ Hid (pre ++ pcsFrom zs i = pcs zs) ∧ wr.ownsRow w.heap.size 27 3 v pre.length (pre.flatMap refCells) ∧ Below w.heap.size w wr) (fun _ s4 _ => zs.length - (intOf s4).toNat)
  case atStart => exact ⟨_, 0, [], rfl, rfl, Nat.zero_le _, rfl, World.ownsRow_nil _ _ _ _, Below.refl _ _⟩
  case round =>
    obtain ⟨v, i, pre, rfl, rfl, hi1, HP, hrow, hB⟩ := hrel
    have HROW := hid hrow
    have HB := hid hB
    have hszr := hB.size
    clear hrow hB
    by_cases hlt : i < zs.length
    · have hlt' : (i : Int) < (zs.length : Int) := by omega
      have hat := at_any a cap zs i wr (HS.out.below HB.out (Nat.le_refl _)) hlt
      rw [atF_eq _ (by simp; omega) (HS.out.2.2.1.drop i)] at hat
      have hst := pcsFrom_step hlt
      have hsz := readF_drop_size hlt
      generalize readF (zs.drop i) = q at *
      obtain ⟨r, size, whole⟩ := q
      simp only at hat hst hsz
      obtain ⟨hs1, hs2⟩ := hsz
      have HAT := hid hat
      have HP2 : Hid ((pre ++ [⟨i, size, r, whole⟩]) ++ pcsFrom zs (i + size) = pcs zs) := by
        refine Eq.trans ?_ HP.out
        rw [hst]; simp
      have hplen : pre.length + 1 ≤ 1000000 := by
        have h := congrArg List.length HP2.out
        simp at h
        omega
      have hib : (i : Int) + (size : Int) ≤ 1000000 := by omega
      clear hat hst HP hlen hbig
      go_wp2_with fail
      refine HAT.out.mono ?_
      rintro e w1 ⟨rfl, hb1⟩
      have hb1s := hb1.size
      have hrow1 := owns_below HROW.out hb1
      have HROW1 := hid hrow1
      have HB1 := hid (HB.out.trans (hb1.mono hszr))
      have hne : some w1.heap.size ≠ u3.ownBlock := fun e => by have := (HROW1.out.lt _ e.symm).2; omega
      clear hb1 hrow1 HROW
      go_wp2_with (at_builtin; (refine wpList_append_own _ rfl _ _ 34 rfl w.heap.size 27 i0 (.agg #[.int .i32 0, .int .i64 0, .bool false]) 3 24 Try.underlying34 hi hz0 hz1 hz2 rfl (by decide) _ _ _ rfl ((HROW1.out.alloc _).alloc _) ⟨w1.heap.size + 1, 0, none⟩ 1 1 [.int .i32 r, .int .i64 size, .bool whole] rfl rfl (World.news_of_block (cs := #[.int .i32 r, .int .i64 size, .bool whole]) (t := 27) (fr := (0, 0)) (by rw [← World.size_alloc w1 _]; exact heap_alloc_new _ _)) (by simp [Value.oneCell']) (by unfold maxLen; omega) (by omega) (by simp; omega) ?_); intro v' w2 hown' hgrow _; have hcs : w2.cell? ⟨w1.heap.size, 1, none⟩ = some (.int .i64 size) := by rw [hgrow.cell_far _ (by simp; omega) hne]; simp)
      go_roundw
      case rel => exact ⟨v', i + size, _, rfl, by go_num, by omega, HP2, by simpa [refCells] using hown', (((HB1.out.alloc (by have := HB1.out.size; omega) _).alloc (by have := HB1.out.size; simp; omega) _).grown hgrow (by have := HB1.out.size; simp; omega) (fun k e => (HROW1.out.lt k e).1))⟩
      case measure => simp [intOf]; omega
    · obtain rfl : i = zs.length := by omega
      have hfin : pre = pcs zs := by
        have h := HP.out
        rwa [pcsFrom_end (Nat.le_refl _), List.append_nil] at h
      subst hfin
      go_wp2
      go_ret
      exact ⟨_, rfl, HROW.out, HB.out⟩
end Go.Proofs.Ytalgldnnbjlokaa
