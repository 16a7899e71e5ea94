/- Chapter 02: right lists of the document, what is known, how many there are, a set as it is: walks. -/
import Derived.Test.YtbkjanlkklmleaaRgA
import Derived.Test.YtbkjanlkklmleaaRgC
import Derived.StillTailTactics
import Derived.LoopTactic
namespace Go.Proofs.Ytbkjanlkklmleaa
open Go.RowKit
open Go.Lib (hid)
set_option linter.unusedVariables false

/-- A slice of ranges that a call returned. -/
def RetR (w : World) (e : Ending) (w' : World) (l : List Rg) : Prop := ∃ a n c, e = .returned (.slice a n c) ∧ RR w' a n c l ∧ Below w.heap.size w w'
/-- .. of memory of the call's own. -/
def RetW (w : World) (e : Ending) (w' : World) (l : List Rg) : Prop := ∃ a n c, e = .returned (.slice a n c) ∧ w'.ownsRow w.heap.size 48 2 (.slice a n c) n (l.flatMap rgCells) ∧ Below w.heap.size w w'
def knownL (l : List Rg) : List Rg := if rightB l = true then l else []
theorem knownL_right (l : List Rg) : rightR (knownL l) := by
  unfold knownL
  split
  · rename_i h; exact (rightB_iff l).1 h
  · exact trivial
theorem knownL_of {l : List Rg} (h : rightR l) : knownL l = l := if_pos ((rightB_iff l).2 h)
theorem knownL_len (l : List Rg) : (knownL l).length ≤ l.length := by
  unfold knownL
  split
  · exact Nat.le_refl _
  · exact Nat.zero_le _
set_option maxHeartbeats 1000000 in
theorem known_any (a : Option Addr) (n cap : Nat) (l : List Rg) (w : World) (hl : RR w a n cap l) (hn : n ≤ 1000000) (h32 : In32 l) :
    Calls Try.prog 29 #[.slice a n cap] w fun e w' => RetR w e w' (knownL l) := by
  have HR := hid (isright_any a n cap l w hl hn h32)
  have HL := hid hl
  clear hl h32
  cases hr : rightB l
  · have HK := hid (show knownL l = [] by unfold knownL; rw [if_neg (by rw [hr]; decide)])
    rw [hr] at HR
    clear hr
    go_enter Try.func29, Try.ntmps29
    go_wp2_with fail
    refine HR.out.mono ?_
    rintro e w2 ⟨rfl, hb⟩
    have HB := hid hb
    clear hb
    go_wp2_with fail
    go_ret
    refine ⟨_, _, _, rfl, ?_, HB.out⟩
    rw [HK.out]
    exact RR.nil _
  · have HK := hid (show knownL l = l by unfold knownL; rw [if_pos hr])
    rw [hr] at HR
    clear hr
    go_enter Try.func29, Try.ntmps29
    go_wp2_with fail
    refine HR.out.mono ?_
    rintro e w2 ⟨rfl, hb⟩
    have HB := hid hb
    clear hb
    go_wp2_with fail
    go_ret
    refine ⟨_, _, _, rfl, ?_, HB.out⟩
    rw [HK.out]
    exact HL.out.below HB.out (Nat.le_refl _)
theorem reads_blk2 {w : World} {q : Nat} {t : TypeId} {x y : Value} (h : Blk w q t #[x, y]) : Reads w w.heap.size 2 (some ⟨q, 0, none⟩) 1 [x, y] := by
  refine ⟨rfl, fun _ => ⟨_, rfl, h.lt, fun j u hu => ?_⟩⟩
  rw [show (Addr.add ⟨q, 0, none⟩ j) = ⟨q, 0 + j, none⟩ by unfold Addr.add; split <;> simp_all, Nat.zero_add, h.cell j]
  simpa using hu
theorem info_rg : (Try.prog.info? 48).map (fun i => (i.zero, i.size, i.bytes)) = some (some (.agg #[.int .i32 0, .int .i32 0]), 2, 8) := by kernel_rfl
theorem info_rg2 : (Try.prog.info? 49).map (fun i => (i.zero, i.size, i.bytes)) = some (some (.agg #[.int .i32 0, .int .i32 0]), 2, 8) := by kernel_rfl
end Go.Proofs.Ytbkjanlkklmleaa
