/- Walk of the document's At. -/
import Derived.Test.YtalgldnnbjlokaaProg
import Derived.Test.YtalgldnnbjlokaaBegins
namespace Go.Proofs.Ytalgldnnbjlokaa
open Go.RowKit
open Go.Lib

theorem beginsF_range : ∀ (l : List Int), 0 ≤ (beginsF l).2 ∧ (beginsF l).2 ≤ 4
  | [] => ⟨by decide, by decide⟩
  | c :: t => by
    rw [beginsF]
    have hq : 0 ≤ (leadB c).1 ∧ (leadB c).1 ≤ 4 := by
      unfold leadB
      repeat' split
      all_goals simp
    split
    · simp
    · simp only
      split
      · simp
      · split
        · simp
        · unfold judge
          split
          · simp
          · exact hq

set_option maxHeartbeats 8000000 in
theorem at_any (a : Option Addr) (cap : Nat) (zs : List Int) (i : Nat) (w : World) (hs : SB w a cap zs) (hi : i < zs.length) :
    Calls Try.prog 9 #[.slice a zs.length cap, .int .i64 i] w fun e w' => e = .returned (.agg #[.int .i32 (atF (zs.drop i)).1, .int .i64 (atF (zs.drop i)).2.1, .bool (atF (zs.drop i)).2.2]) ∧ Below w.heap.size w w' := by
  obtain ⟨h1, h2, h3, h4⟩ := hs
  rcases h4 with rfl | ⟨b, off, rfl, hb, hrow⟩
  · simp at hi
  have HRD := Lib.hid (hrow.drop i)
  have HBD := Lib.hid (h3.drop i)
  have HLL := Lib.hid (show (zs.drop i).length = zs.length - i by simp)
  have HE : Hid (atF (zs.drop i) = atGo (zs.drop i) (5 - 1) 1 1) := rfl
  generalize atF (zs.drop i) = R at *
  generalize zs.drop i = l at *
  generalize zs.length = len at *
  clear h3 hrow
  go_enter Try.func9, Try.ntmps9
  go_wp2
  have hB : Below w.heap.size w (w.alloc (.cells #[.int .i32 0, .int .i64 0, .bool false] 27)) := (Below.refl _ _).alloc (Nat.le_refl _) _
  go_loop [5, 6] (fun s5 s6 => ∃ (k size : Nat), s5 = .int .i64 size ∧ s6 = .int .i64 k ∧ 1 ≤ k ∧ k ≤ 5 ∧ size ≤ 4 ∧ Hid (R = atGo l (5 - k) k size)) (fun _ s6 => 5 - (RowKit.intOf s6).toNat)
  case atStart => exact ⟨1, 1, rfl, rfl, by omega, by omega, by omega, HE⟩
  case round =>
    obtain ⟨k, size, rfl, rfl, hk1, hk5, hs4, HR⟩ := hrel
    clear HE
    by_cases hk4 : k ≤ 4
    · have hk4' : (k : Int) ≤ 4 := by omega
      have hstep : atGo l (5 - k) k size = if l.length < k then (65533, size, false) else if (beginsF (l.take k)).2 = 0 then (65533, size, false) else if (beginsF (l.take k)).2 = (k : Int) then ((beginsF (l.take k)).1, (beginsF (l.take k)).2.toNat, true) else atGo l (5 - (k + 1)) (k + 1) k := by
        rw [show 5 - k = (5 - (k + 1)) + 1 by omega]
        rfl
      by_cases hlk : l.length < k
      · have HN := Lib.hid (show R = (65533, size, false) by rw [HR.out, hstep, if_pos hlk])
        have hlk' : ¬ ((k : Int) ≤ (len : Int) - (i : Int)) := by have := HLL.out; omega
        clear HR hstep
        go_wp2
        refine bodyPost_ret (v := .agg #[.int .i32 65533, .int .i64 size, .bool false]) (by simp [results, Try.results9, go_sem]) rfl ⟨by rw [HN.out], ?_⟩
        exact (Below.refl _ _).alloc (Nat.le_refl _) _
      · have hlk' : (k : Int) ≤ (len : Int) - (i : Int) := by have := HLL.out; omega
        have hik : i + k ≤ len := by omega
        have hkc : i + k ≤ cap := by omega
        have htk : (l.take k).length = k := by rw [List.length_take]; omega
        have hrange := beginsF_range (l.take k)
        have hbg := fun W hr => begins_any b (off + i) k (cap - i) (l.take k) W htk hk1 hk4 hr (HBD.out.take k)
        have hrow2 : BRow (w.alloc (.cells #[.int .i32 0, .int .i64 0, .bool false] 27)) b (off + i) (l.take k) := (HRD.out.below hB hb).take k
        have HBG := Lib.hid (hbg _ hrow2)
        have HST := Lib.hid hstep
        clear hbg hrow2 hstep htk
        generalize beginsF (l.take k) = p at *
        obtain ⟨v, n⟩ := p
        simp only at HST HBG hrange
        obtain ⟨hr0, hr4⟩ := hrange
        by_cases hn0 : n = 0
        · subst hn0
          have HN := Lib.hid (show R = (65533, size, false) by rw [HR.out, HST.out, if_neg hlk, if_pos rfl])
          clear HR HST
          go_wp2_with (go_at_call 19; refine HBG.out.mono ?_; rintro e w' ⟨rfl, rfl⟩)
          refine bodyPost_ret (v := .agg #[.int .i32 65533, .int .i64 size, .bool false]) (by simp [results, Try.results9, go_sem]) rfl ⟨by rw [HN.out], ?_⟩
          exact (Below.refl _ _).alloc (Nat.le_refl _) _
        · have hn0' : (n == 0) = false := by simpa using hn0
          by_cases hnk : n = (k : Int)
          · have HN := Lib.hid (show R = (v, k, true) by rw [HR.out, HST.out, if_neg hlk, if_neg hn0, if_pos hnk, hnk, Int.toNat_natCast])
            subst hnk
            clear HR HST hn0
            go_wp2_with (go_at_call 19; refine HBG.out.mono ?_; rintro e w' ⟨rfl, rfl⟩)
            refine bodyPost_ret (v := .agg #[.int .i32 v, .int .i64 k, .bool true]) (by simp [results, Try.results9, go_sem]) rfl ⟨by rw [HN.out], ?_⟩
            exact (Below.refl _ _).alloc (Nat.le_refl _) _
          · have hnk' : (n == (k : Int)) = false := by simpa using hnk
            have HN := Lib.hid (show R = atGo l (5 - (k + 1)) (k + 1) k by rw [HR.out, HST.out, if_neg hlk, if_neg hn0, if_neg hnk])
            clear HR HST hn0 hnk
            go_wp2_with (go_at_call 19; refine HBG.out.mono ?_; rintro e w' ⟨rfl, rfl⟩)
            go_round
            case rel => exact ⟨k + 1, k, rfl, by go_num, by omega, by omega, by omega, HN⟩
            case measure => simp [RowKit.intOf]; omega
    · obtain rfl : k = 5 := by omega
      have HN := Lib.hid (show R = (65533, size, false) by rw [HR.out]; rfl)
      go_wp2
      refine bodyPost_ret (v := .agg #[.int .i32 65533, .int .i64 size, .bool false]) (by simp [results, Try.results9, go_sem]) rfl ⟨by rw [HN.out], ?_⟩
      exact (Below.refl _ _).alloc (Nat.le_refl _) _
end Go.Proofs.Ytalgldnnbjlokaa
