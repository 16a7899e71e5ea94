/- Chapter 02: the document's example: the walk. -/
import Derived.Test.YtbkjanlkklmleaaGreatDoorRgPz
import Derived.Test.YtbkjanlkklmleaaGreatDoorRgZ
namespace Go.Proofs.YtbkjanlkklmleaaGreatDoor
open Go.RowKit
open Go.Lib (hid)
set_option linter.unusedVariables false
set_option maxRecDepth 100000

theorem rr_blk {w : World} {q : Nat} {t : TypeId} {l : List Rg} {cs : Array Value} (h : Blk w q t cs) (he : cs = (l.flatMap rgCells).toArray) (hl : l.length ≤ 1000000) : RR w (some ⟨q, 0, none⟩) l.length l.length l := by
  subst he
  refine ⟨rfl, Nat.le_refl _, by omega, fun _ => ⟨q, 0, rfl, h.lt, fun j hj => ?_⟩⟩
  obtain ⟨g0, g1⟩ := rgCells_get l j hj
  rw [Nat.zero_add, h.cell, h.cell]
  exact ⟨by simpa using g0, by simpa using g1⟩
theorem hexD_97 : hexD 97 = [54, 49] := by rw [hexD, dif_neg (by decide), hexD, dif_pos (by decide)]; rfl
theorem hexD_101 : hexD 101 = [54, 53] := by rw [hexD, dif_neg (by decide), hexD, dif_pos (by decide)]; rfl
theorem aw_gath : gathR [(97, 99), (100, 101)] [] 0 = [(97, 101)] := by decide +kernel
theorem aw_right : rightR [(97, 101)] := ⟨by decide, by decide, by decide, trivial⟩
theorem aw_make : makeR [(97, 99), (100, 101)] = ([(97, 101)], 0) := by
  unfold makeR
  rw [aw_gath]
  rfl
theorem aw_text : mkB (printD [(97, 101)]) = ⟨#[48, 48, 54, 49, 45, 48, 48, 54, 53]⟩ := by
  show mkB ((hex4D 97 ++ (if (97 : Int) = 101 then [] else 45 :: hex4D 101)) ++ []) = _
  unfold hex4D
  rw [hexD_97, hexD_101]
  rfl
set_option maxHeartbeats 1000000 in
theorem awake_any (w : World) (hdb : Db w) : Calls Tryz.prog 4 #[] w fun e w' => e = .returned (.bool true) ∧ Below w.heap.size w w' := by
  have HDB := hid hdb
  clear hdb
  go_enter Tryz.func4, Tryz.ntmps4
  go_wp2_with fail
  have hb0 : Below w.heap.size w (w.alloc (.cells #[.int .i32 97, .int .i32 99, .int .i32 100, .int .i32 101] 39)) := (Below.refl _ _).alloc (Nat.le_refl _) _
  have hr0 := rr_blk (l := [(97, 99), (100, 101)]) (Blk.new w 39 #[.int .i32 97, .int .i32 99, .int .i32 100, .int .i32 101]) rfl (by decide)
  generalize w.alloc (.cells #[.int .i32 97, .int .i32 99, .int .i32 100, .int .i32 101] 39) = w1 at *
  have HB := hid hb0
  refine (make_any _ 2 2 [(97, 99), (100, 101)] w1 hr0 (.inr ⟨_, _, rfl⟩) (by decide)).mono ?_
  rintro e w2 ⟨A, n, c, rfl, hr, hb⟩
  rw [aw_make] at hr
  rw [aw_make]
  have HB2 := hid (HB.out.trans (hb.mono HB.out.size))
  have hn : n = 1 := hr.1
  subst hn
  have HR := hid hr
  clear hb0 hr0 hr hb
  have H32 := hid (in32_of_ok (right_ok aw_right))
  have HP := hid (print_any A 1 c [(97, 101)] w2 HR.out (by decide) H32.out (HDB.out.below HB2.out (Nat.le_refl _)))
  rw [knownL_of aw_right, aw_text] at HP
  go_wp2_with fail
  refine HP.out.mono ?_
  rintro e w3 ⟨rfl, hb⟩
  have HB3 := hid (HB2.out.trans (hb.mono HB2.out.size))
  have HR3 := hid (HR.out.below hb (Nat.le_refl _))
  clear hb
  have HC := hid (count_any A 1 c [(97, 101)] w3 HR3.out (by decide) H32.out)
  rw [knownL_of aw_right] at HC
  go_wp2_with fail
  refine HC.out.mono ?_
  rintro e w4 ⟨rfl, hb⟩
  have HB4 := hid (HB3.out.trans (hb.mono HB3.out.size))
  clear hb
  have hcr : countR [(97, 101)] = 5 := rfl
  rw [hcr]
  go_wp2_with fail
  go_ret
  exact ⟨rfl, HB4.out⟩
theorem gatS_len (W : Int → Bool) (o : List Rg) (p q : Int) : (gatS W o p q).length ≤ o.length + 1 := by
  rcases list_snoc o with rfl | ⟨o, z, rfl⟩
  · cases h : W p
    · rw [gatS_no h]; simp
    · rw [gatS_nil h]; simp
  · cases h : W p
    · rw [gatS_no h]; simp
    · by_cases hz : z.2 + 1 = p
      · rw [gatS_on h hz]; simp
      · rw [gatS_new h hz]; simp
theorem gatL_len (W : Int → Bool) : ∀ (l : List Int) (o : List Rg), (gatL W o l).length ≤ o.length + l.length
  | [], o => Nat.le_refl _
  | [p], o => by rw [gatL_one]; simp
  | p :: q :: r, o => by
    rw [gatL_two]
    have h1 := gatL_len W (q :: r) (gatS W o p q)
    have h2 := gatS_len W o p q
    simp only [List.length_cons] at *
    omega
theorem gathR_len (l k : List Rg) (how : Int) : (gathR l k how).length ≤ 2 * (l ++ k).length + 2 := by
  have h1 := gatL_len (wantR l k how) (pointsR (l ++ k)) []
  have h2 := pointsR_len (l ++ k)
  unfold gathR
  simp only [List.length_nil] at h1
  omega
end Go.Proofs.YtbkjanlkklmleaaGreatDoor
