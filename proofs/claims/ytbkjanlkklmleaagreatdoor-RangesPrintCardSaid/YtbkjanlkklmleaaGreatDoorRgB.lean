/- Chapter 02: right lists of the document, what is known, how many there are, a set as it is: walks. -/
import Derived.Test.YtbkjanlkklmleaaGreatDoorRgA
import Derived.Test.YtbkjanlkklmleaaGreatDoorRgC
import Derived.StillTailTactics
import Derived.LoopTactic
namespace Go.Proofs.YtbkjanlkklmleaaGreatDoor
open Go.RowKit
open Go.Lib (hid)
set_option linter.unusedVariables false

/-- A slice of ranges that a call returned. -/
def RetR (w : World) (e : Ending) (w' : World) (l : List Rg) : Prop := ∃ a n c, e = .returned (.slice a n c) ∧ RR w' a n c l ∧ Below w.heap.size w w'
/-- .. of memory of the call's own. -/
def RetW (w : World) (e : Ending) (w' : World) (l : List Rg) : Prop := ∃ a n c, e = .returned (.slice a n c) ∧ w'.ownsRow w.heap.size 39 2 (.slice a n c) n (l.flatMap rgCells) ∧ Below w.heap.size w w'
def knownL (l : List Rg) : List Rg := if rightB l = true then l else []
theorem knownL_right (l : List Rg) : rightR (knownL l) := by
  unfold knownL
  split
  · rename_i h; exact (rightB_iff l).1 h
  · exact trivial
theorem knownL_of {l : List Rg} (h : rightR l) : knownL l = l := if_pos ((rightB_iff l).2 h)
theorem knownL_len (l : List Rg) : (knownL l).length ≤ l.length := by
  unfold knownL
  split
  · exact Nat.le_refl _
  · exact Nat.zero_le _
set_option maxHeartbeats 1000000 in
theorem known_any (a : Option Addr) (n cap : Nat) (l : List Rg) (w : World) (hl : RR w a n cap l) (hn : n ≤ 1000000) (h32 : In32 l) :
    Calls Tryz.prog 15 #[.slice a n cap] w fun e w' => RetR w e w' (knownL l) := by
  have HR := hid (isright_any a n cap l w hl hn h32)
  have HL := hid hl
  clear hl h32
  cases hr : rightB l
  · have HK := hid (show knownL l = [] by unfold knownL; rw [if_neg (by rw [hr]; decide)])
    rw [hr] at HR
    clear hr
    go_enter Tryz.func15, Tryz.ntmps15
    go_wp2_with fail
    refine HR.out.mono ?_
    rintro e w2 ⟨rfl, hb⟩
    have HB := hid hb
    clear hb
    go_wp2_with fail
    go_ret
    refine ⟨_, _, _, rfl, ?_, HB.out⟩
    rw [HK.out]
    exact RR.nil _
  · have HK := hid (show knownL l = l by unfold knownL; rw [if_pos hr])
    rw [hr] at HR
    clear hr
    go_enter Tryz.func15, Tryz.ntmps15
    go_wp2_with fail
    refine HR.out.mono ?_
    rintro e w2 ⟨rfl, hb⟩
    have HB := hid hb
    clear hb
    go_wp2_with fail
    go_ret
    refine ⟨_, _, _, rfl, ?_, HB.out⟩
    rw [HK.out]
    exact HL.out.below HB.out (Nat.le_refl _)
theorem reads_blk2 {w : World} {q : Nat} {t : TypeId} {x y : Value} (h : Blk w q t #[x, y]) : Reads w w.heap.size 2 (some ⟨q, 0, none⟩) 1 [x, y] := by
  refine ⟨rfl, fun _ => ⟨_, rfl, h.lt, fun j u hu => ?_⟩⟩
  rw [show (Addr.add ⟨q, 0, none⟩ j) = ⟨q, 0 + j, none⟩ by unfold Addr.add; split <;> simp_all, Nat.zero_add, h.cell j]
  simpa using hu
theorem info_rg : (Tryz.prog.info? 39).map (fun i => (i.zero, i.size, i.bytes)) = some (some (.agg #[.int .i32 0, .int .i32 0]), 2, 8) := by kernel_rfl
theorem info_rg2 : (Tryz.prog.info? 45).map (fun i => (i.zero, i.size, i.bytes)) = some (some (.agg #[.int .i32 0, .int .i32 0]), 2, 8) := by kernel_rfl
set_option maxRecDepth 100000 in
set_option maxHeartbeats 4000000 in
theorem to_own (a : Option Addr) (n cap : Nat) (l : List Rg) (w : World) (hl : RR w a n cap l) (hn : n ≤ 1000000) :
    Calls Tryz.prog 7 #[.slice a n cap] w fun e w' => RetW w e w' l := by
  obtain ⟨i0, hi, hz0, hz1, hz2⟩ := info_parts info_rg
  have HL := hid hl
  have HN := hid hl.1
  clear hl
  go_enter Tryz.func7, Tryz.ntmps7
  go_wp2_with fail
  go_loopg [3, 4] n (fun kx s3 s4 wr => ∃ (v : Value) (i : Nat), s3 = v ∧ s4 = .int .i64 i ∧ i ≤ n ∧ n - i ≤ kx ∧ Hid (wr.ownsRow w.heap.size 39 2 v i ((l.take i).flatMap rgCells)) ∧ Hid (Below w.heap.size w wr))
  case atStart => exact ⟨_, 0, rfl, rfl, Nat.zero_le _, by omega, World.ownsRow_nil _ _ _ _, Below.refl _ _⟩
  case round =>
    obtain ⟨v, i, rfl, rfl, hi1, hg, HROW, HB⟩ := hrel
    have hszr := HB.out.size
    by_cases hlt : i < n
    · have hlt' : (i : Int) < (n : Int) := by omega
      have hil : i < l.length := by have := HN.out; omega
      obtain ⟨b, off, rfl, hbl, hc⟩ := HL.out.2.2.2 (by omega)
      obtain ⟨c0, c1⟩ := hc i hil
      have c0 := (HB.out.cell (p := ⟨b, _, none⟩) hbl).trans c0
      have c1 := (HB.out.cell (p := ⟨b, _, none⟩) hbl).trans c1
      have htk : (l.take (i + 1)).flatMap rgCells = (l.take i).flatMap rgCells ++ rgCells l[i] := by rw [List.take_add_one, List.getElem?_eq_getElem hil, List.flatMap_append]; simp
      generalize l[i] = x at *
      obtain ⟨lo, hi2⟩ := x
      simp only at c0 c1
      have HTK := hid htk
      clear hc htk
      obtain ⟨A0, cp0, rfl⟩ := owns_slice HROW.out
      have hne : (Value.slice A0 i cp0).ownBlock ≠ some b := fun e => by have := own_ge HROW.out b e; omega
      have HNE := hid hne
      clear hne
      go_upto_region 5 with fail
      go_region_held3 (fun w' : World => w'.cell? ⟨b, off + i * 2, none⟩ = some (.int .i32 lo) ∧ w'.cell? ⟨b, off + i * 2 + 1, none⟩ = some (.int .i32 hi2))
        (first
          | go_keep
          | (go_split_ands
             refine ⟨?_, ?_⟩
             · (rw [hgrow.cell_far _ (by simp; omega) (Ne.symm HNE.out)]; assumption)
             · (rw [hgrow.cell_far _ (by simp; omega) (Ne.symm HNE.out)]; assumption)))
        ((refine step_append_any _ (by rfl) (.tmp 11) (.tmp 23) 27 (by rfl) w.heap.size 39 i0 (.agg #[.int .i32 0, .int .i32 0]) 2 8 Tryz.underlying27 hi hz0 hz1 hz2 rfl (by decide) (.slice A0 i cp0) i ((l.take i).flatMap rgCells) (by rfl) ((HROW.out.alloc _).drew) _ (some ⟨wr.heap.size, 0, none⟩) 1 1 [.int .i32 lo, .int .i32 hi2] (by rfl) (reads_blk2 (Blk.new wr _ _)) (by simp [Value.oneCell']) (by unfold maxLen; omega) (by omega) (by simp; omega) ?_
          intro v' w1 hown1 hgrow hat))
      have HROW1 := hid hown1
      have HB1 := hid ((HB.out.alloc hszr _).drew.grown hgrow (by simp; omega) (own_ge HROW.out))
      clear hown1 hgrow hat
      go_wp2_with fail
      go_roundg (n - (i + 1))
      case measure => omega
      case rel =>
        refine ⟨v', i + 1, rfl, by go_num, by omega, Nat.le_refl _, ?_, HB1.out⟩
        show World.ownsRow _ _ _ _ _ _ _
        rw [HTK.out]
        exact HROW1.out
    · obtain rfl : i = n := by omega
      have hall : l.take i = l := List.take_of_length_le (by have := HN.out; omega)
      rw [hall] at HROW
      clear hall HN
      obtain ⟨A0, cp0, rfl⟩ := owns_slice HROW.out
      go_wp2_with fail
      go_ret
      exact ⟨_, _, _, rfl, HROW.out, HB.out⟩
theorem to_any (a : Option Addr) (n cap : Nat) (l : List Rg) (w : World) (hl : RR w a n cap l) (hn : n ≤ 1000000) :
    Calls Tryz.prog 7 #[.slice a n cap] w fun e w' => RetR w e w' l :=
  (to_own a n cap l w hl hn).mono fun _ _ ⟨A, m, c, he, ho, hb⟩ => ⟨A, m, c, he, RR.of_own ho, hb⟩
end Go.Proofs.YtbkjanlkklmleaaGreatDoor
