/- Chapter 22: the counts: walks. -/
import Derived.Test.YtlfbgaknljdanaaGreatDoorElC
import Derived.StillTailTactics
import Derived.IntWalk
namespace Go.Proofs.YtlfbgaknljdanaaGreatDoor
open Go.RowKit
open Go.Lib (hid)
set_option linter.unusedVariables false
set_option maxRecDepth 100000

/-- A count, turned by an element. -/
def trn (n : Int) (is : Bool) (by_ : Int) : Int := if is = true then min (max (n + by_) 0) 255 else n
theorem trn_bd {n : Int} (h0 : 0 ≤ n) (h1 : n ≤ 255) (is : Bool) (by_ : Int) : 0 ≤ trn n is by_ ∧ trn n is by_ ≤ 255 := by
  unfold trn
  split <;> omega
def bitsC : Array Value := #[.int .i64 4, .int .i64 8, .int .i64 16]
theorem bits_any (w : World) : Calls Tryz.prog 96 #[] w fun e w' => e = .returned (.agg bitsC) ∧ Below w.heap.size w w' := by
  have hb := (Below.refl w.heap.size w).alloc (Nat.le_refl _) (.cells #[.int .i64 0, .int .i64 0, .int .i64 0] 92)
  have hk := Blk.new w 92 #[.int .i64 0, .int .i64 0, .int .i64 0]
  have y0 := hk.cell 0
  have y1 := hk.cell 1
  have y2 := hk.cell 2
  have yf := hk.frozen
  simp only [List.getElem?_toArray, List.getElem?_cons_zero, List.getElem?_cons_succ] at y0 y1 y2
  have HK := hid (show Blk ((((w.alloc (.cells #[.int .i64 0, .int .i64 0, .int .i64 0] 92)).setCell ⟨w.heap.size, 0, none⟩ (.int .i64 4)).setCell ⟨w.heap.size, 1, none⟩ (.int .i64 8)).setCell ⟨w.heap.size, 2, none⟩ (.int .i64 16)) w.heap.size 92 bitsC by
    have := ((hk.set_ 0 (.int .i64 4)).set_ 1 (.int .i64 8)).set_ 2 (.int .i64 16)
    simpa [bitsC] using this)
  have HB := hid (((hb.setCell (p := ⟨w.heap.size, 0, none⟩) (Nat.le_refl _) (.int .i64 4)).setCell (p := ⟨w.heap.size, 1, none⟩) (Nat.le_refl _) (.int .i64 8)).setCell (p := ⟨w.heap.size, 2, none⟩) (Nat.le_refl _) (.int .i64 16))
  clear hb hk
  go_enter Tryz.func96, Tryz.ntmps96
  go_upto_region 1 with fail
  generalize w.alloc (.cells #[.int .i64 0, .int .i64 0, .int .i64 0] 92) = w1 at *
  go_wp2_with fail
  generalize ((w1.setCell ⟨w.heap.size, 0, none⟩ (.int .i64 4)).setCell ⟨w.heap.size, 1, none⟩ (.int .i64 8)).setCell ⟨w.heap.size, 2, none⟩ (.int .i64 16) = w2 at *
  exact bodyPost_ret (results_cell_row rfl _ _ w.heap.size _ _ _ _ rfl HK.out Tryz.underlying92 rfl (by kernel_rfl)) rfl ⟨rfl, HB.out⟩
theorem bidx0 (w : World) : (Instr.index 92 (.agg #[.int .i64 4, .int .i64 8, .int .i64 16]) (.int .i64 0)).run Tryz.prog w = .ok (.int .i64 4) w := by kernel_rfl
theorem bidx1 (w : World) : (Instr.index 92 (.agg #[.int .i64 4, .int .i64 8, .int .i64 16]) (.int .i64 1)).run Tryz.prog w = .ok (.int .i64 8) w := by kernel_rfl
theorem bidx2 (w : World) : (Instr.index 92 (.agg #[.int .i64 4, .int .i64 8, .int .i64 16]) (.int .i64 2)).run Tryz.prog w = .ok (.int .i64 16) w := by kernel_rfl
def neC (i : Nat) (h p b h' p' b' : Int) : Array Value := #[.int .i64 (if 0 < i then h' else h), .int .i64 (if 1 < i then p' else p), .int .i64 (if 2 < i then b' else b)]
set_option maxHeartbeats 4000000 in
theorem add_any (g : Nat) (t : TypeId) (h p b is by_ : Int) (hi pr nb : Bool) (w : World) (hk : Blk w g t #[.int .i64 h, .int .i64 p, .int .i64 b]) (hh : 0 ≤ h ∧ h ≤ 255) (hp : 0 ≤ p ∧ p ≤ 255) (hb : 0 ≤ b ∧ b ≤ 255) (hby : by_ = 1 ∨ by_ = -1)
    (e4 : bits .and .i64 is 4 = if hi = true then 4 else 0) (e8 : bits .and .i64 is 8 = if pr = true then 8 else 0) (e16 : bits .and .i64 is 16 = if nb = true then 16 else 0) :
    Calls Tryz.prog 73 #[.pointer (some ⟨g, 0, none⟩), .int .i64 is, .int .i64 by_] w fun e w' => (∃ v, e = .returned v) ∧
      Blk w' g t #[.int .i64 (trn h hi by_), .int .i64 (trn p (decide (h = 0) && pr) by_), .int .i64 (trn b (decide (h = 0) && nb) by_)] ∧ w.grownBy w' (some g) := by
  have HK := hid hk
  have hg := hk.lt
  have x0 := hk.cell 0
  simp only [List.getElem?_toArray, List.getElem?_cons_zero] at x0
  have HBI := hid (fun W => bits_any W)
  clear hk
  have E4 := hid e4
  have E8 := hid e8
  have E16 := hid e16
  clear e4 e8 e16
  by_cases h0 : h = 0
  · subst h0
    have HD := hid (show decide ((0 : Int) = 0) = true from rfl)
    show Calls _ _ _ _ fun e w' => (∃ v, e = .returned v) ∧ Blk w' g t #[.int .i64 (trn 0 hi by_), .int .i64 (trn p pr by_), .int .i64 (trn b nb by_)] ∧ w.grownBy w' (some g)
    go_enter Tryz.func73, Tryz.ntmps73
    go_wp2_with fail
    refine (HBI.out _).mono ?_
    rintro e w2 ⟨rfl, hb2⟩
    have HK2 := hid (HK.out.below hb2 hg)
    have HG2 := hid (grown_of_below hb2 (some g))
    clear hb2 x0
    unfold bitsC
    go_wp2_with fail
    go_loopg [16] 3 (fun kx s16 wr => ∃ i : Nat, s16 = .int .i64 i ∧ i ≤ 3 ∧ 3 - i ≤ kx ∧ Hid (Blk wr g t (neC i 0 p b (trn 0 hi by_) (trn p pr by_) (trn b nb by_))) ∧ Hid (w.grownBy wr (some g)))
    case atStart => exact ⟨0, rfl, by omega, by omega, HK2.out, HG2.out⟩
    case round =>
      obtain ⟨i, rfl, hi3, hgk, HQ, HG⟩ := hrel
      rcases (by omega : i = 0 ∨ i = 1 ∨ i = 2 ∨ i = 3) with rfl | rfl | rfl | rfl
      · have hq := hid (show Blk wr g t #[.int .i64 (0), .int .i64 (p), .int .i64 (b)] from HQ.out)
        have y0 := hq.out.cell 0
        have y1 := hq.out.cell 1
        have y2 := hq.out.cell 2
        have yf := hq.out.frozen
        simp only [List.getElem?_toArray, List.getElem?_cons_zero, List.getElem?_cons_succ] at y0 y1 y2
        have bx := bidx0
        cases hi
        · have ee : bits .and .i64 is 4 = 0 := by rw [E4.out]; rfl
          go_wp2_with fail
          go_roundg (3 - 1)
          case measure => omega
          case rel => exact ⟨1, rfl, by omega, Nat.le_refl _, hq.out, HG.out⟩
        · have ee : bits .and .i64 is 4 = 4 := by rw [E4.out]; rfl
          have hw : IntKind.i64.wrap (0 + by_) = 0 + by_ := IntWalk.i64_in _ (by omega)
          go_upto_region 5 with fail
          go_still_tail 15, (by kernel_rfl)
          go_wp2_with fail
          have HQ7 := hid ((hq.out.set_ 0 (.int .i64 (min (max by_ 0) 255))).drew)
          have HG7 := hid ((HG.out.trans (grown_set wr g 0 (.int .i64 (min (max by_ 0) 255)))).trans ⟨rfl, rfl, rfl, Nat.le_refl _, fun _ _ _ => rfl⟩ : w.grownBy (wr.setCell ⟨g, 0, none⟩ (.int .i64 (min (max by_ 0) 255))).drew (some g))
          go_roundg (3 - 1)
          case measure => omega
          case rel =>
            refine ⟨1, rfl, by omega, Nat.le_refl _, ?_, ?_⟩
            · show Blk _ _ _ _
              have := HQ7.out
              simpa [neC, trn] using this
            · exact HG7.out
      · have hq := hid (show Blk wr g t #[.int .i64 (trn 0 hi by_), .int .i64 (p), .int .i64 (b)] from HQ.out)
        have y0 := hq.out.cell 0
        have y1 := hq.out.cell 1
        have y2 := hq.out.cell 2
        have yf := hq.out.frozen
        simp only [List.getElem?_toArray, List.getElem?_cons_zero, List.getElem?_cons_succ] at y0 y1 y2
        have bx := bidx1
        cases pr
        · have ee : bits .and .i64 is 8 = 0 := by rw [E8.out]; rfl
          go_wp2_with fail
          go_roundg (3 - 2)
          case measure => omega
          case rel => exact ⟨2, rfl, by omega, Nat.le_refl _, hq.out, HG.out⟩
        · have ee : bits .and .i64 is 8 = 8 := by rw [E8.out]; rfl
          have hw : IntKind.i64.wrap (p + by_) = p + by_ := IntWalk.i64_in _ (by omega)
          go_upto_region 5 with fail
          go_still_tail 15, (by kernel_rfl)
          go_wp2_with fail
          have HQ7 := hid ((hq.out.set_ 1 (.int .i64 (min (max (p + by_) 0) 255))).drew)
          have HG7 := hid ((HG.out.trans (grown_set wr g 1 (.int .i64 (min (max (p + by_) 0) 255)))).trans ⟨rfl, rfl, rfl, Nat.le_refl _, fun _ _ _ => rfl⟩ : w.grownBy (wr.setCell ⟨g, 1, none⟩ (.int .i64 (min (max (p + by_) 0) 255))).drew (some g))
          go_roundg (3 - 2)
          case measure => omega
          case rel =>
            refine ⟨2, rfl, by omega, Nat.le_refl _, ?_, ?_⟩
            · show Blk _ _ _ _
              have := HQ7.out
              simpa [neC, trn] using this
            · exact HG7.out
      · have hq := hid (show Blk wr g t #[.int .i64 (trn 0 hi by_), .int .i64 (trn p pr by_), .int .i64 (b)] from HQ.out)
        have y0 := hq.out.cell 0
        have y1 := hq.out.cell 1
        have y2 := hq.out.cell 2
        have yf := hq.out.frozen
        simp only [List.getElem?_toArray, List.getElem?_cons_zero, List.getElem?_cons_succ] at y0 y1 y2
        have bx := bidx2
        cases nb
        · have ee : bits .and .i64 is 16 = 0 := by rw [E16.out]; rfl
          go_wp2_with fail
          go_roundg (3 - 3)
          case measure => omega
          case rel => exact ⟨3, rfl, by omega, Nat.le_refl _, hq.out, HG.out⟩
        · have ee : bits .and .i64 is 16 = 16 := by rw [E16.out]; rfl
          have hw : IntKind.i64.wrap (b + by_) = b + by_ := IntWalk.i64_in _ (by omega)
          go_upto_region 5 with fail
          go_still_tail 15, (by kernel_rfl)
          go_wp2_with fail
          have HQ7 := hid ((hq.out.set_ 2 (.int .i64 (min (max (b + by_) 0) 255))).drew)
          have HG7 := hid ((HG.out.trans (grown_set wr g 2 (.int .i64 (min (max (b + by_) 0) 255)))).trans ⟨rfl, rfl, rfl, Nat.le_refl _, fun _ _ _ => rfl⟩ : w.grownBy (wr.setCell ⟨g, 2, none⟩ (.int .i64 (min (max (b + by_) 0) 255))).drew (some g))
          go_roundg (3 - 3)
          case measure => omega
          case rel =>
            refine ⟨3, rfl, by omega, Nat.le_refl _, ?_, ?_⟩
            · show Blk _ _ _ _
              have := HQ7.out
              simpa [neC, trn] using this
            · exact HG7.out
      · have HQF := hid (show Blk wr g t #[.int .i64 (trn 0 hi by_), .int .i64 (trn p pr by_), .int .i64 (trn b nb by_)] from HQ.out)
        go_wp2_with fail
        go_end0
        exact ⟨⟨_, rfl⟩, HQF.out, HG.out⟩
  · have h0b : (h == 0) = false := by simpa using h0
    have HD := hid (show decide (h = 0) = false from decide_eq_false h0)
    clear h0
    go_enter Tryz.func73, Tryz.ntmps73
    go_wp2_with fail
    refine (HBI.out _).mono ?_
    rintro e w2 ⟨rfl, hb2⟩
    have HK2 := hid (HK.out.below hb2 hg)
    have HG2 := hid (grown_of_below hb2 (some g))
    clear hb2 x0
    unfold bitsC
    go_wp2_with fail
    go_loopg [16] 3 (fun kx s16 wr => ∃ i : Nat, s16 = .int .i64 i ∧ i ≤ 3 ∧ 3 - i ≤ kx ∧ Hid (Blk wr g t (neC i h p b (trn h hi by_) (p) (b))) ∧ Hid (w.grownBy wr (some g)))
    case atStart => exact ⟨0, rfl, by omega, by omega, HK2.out, HG2.out⟩
    case round =>
      obtain ⟨i, rfl, hi3, hgk, HQ, HG⟩ := hrel
      rcases (by omega : i = 0 ∨ i = 1 ∨ i = 2 ∨ i = 3) with rfl | rfl | rfl | rfl
      · have hq := hid (show Blk wr g t #[.int .i64 (h), .int .i64 (p), .int .i64 (b)] from HQ.out)
        have y0 := hq.out.cell 0
        have y1 := hq.out.cell 1
        have y2 := hq.out.cell 2
        have yf := hq.out.frozen
        simp only [List.getElem?_toArray, List.getElem?_cons_zero, List.getElem?_cons_succ] at y0 y1 y2
        have bx := bidx0
        cases hi
        · have ee : bits .and .i64 is 4 = 0 := by rw [E4.out]; rfl
          go_wp2_with fail
          go_roundg (3 - 1)
          case measure => omega
          case rel => exact ⟨1, rfl, by omega, Nat.le_refl _, hq.out, HG.out⟩
        · have ee : bits .and .i64 is 4 = 4 := by rw [E4.out]; rfl
          have hw : IntKind.i64.wrap (h + by_) = h + by_ := IntWalk.i64_in _ (by omega)
          go_upto_region 5 with fail
          go_still_tail 15, (by kernel_rfl)
          go_wp2_with fail
          have HQ7 := hid ((hq.out.set_ 0 (.int .i64 (min (max (h + by_) 0) 255))).drew)
          have HG7 := hid ((HG.out.trans (grown_set wr g 0 (.int .i64 (min (max (h + by_) 0) 255)))).trans ⟨rfl, rfl, rfl, Nat.le_refl _, fun _ _ _ => rfl⟩ : w.grownBy (wr.setCell ⟨g, 0, none⟩ (.int .i64 (min (max (h + by_) 0) 255))).drew (some g))
          go_roundg (3 - 1)
          case measure => omega
          case rel =>
            refine ⟨1, rfl, by omega, Nat.le_refl _, ?_, ?_⟩
            · show Blk _ _ _ _
              have := HQ7.out
              simpa [neC, trn] using this
            · exact HG7.out
      · have hq := hid (show Blk wr g t #[.int .i64 (trn h hi by_), .int .i64 (p), .int .i64 (b)] from HQ.out)
        have y0 := hq.out.cell 0
        have y1 := hq.out.cell 1
        have y2 := hq.out.cell 2
        have yf := hq.out.frozen
        simp only [List.getElem?_toArray, List.getElem?_cons_zero, List.getElem?_cons_succ] at y0 y1 y2
        have bx := bidx1
        cases pr
        · have ee : bits .and .i64 is 8 = 0 := by rw [E8.out]; rfl
          go_wp2_with fail
          go_roundg (3 - 2)
          case measure => omega
          case rel => exact ⟨2, rfl, by omega, Nat.le_refl _, hq.out, HG.out⟩
        · have ee : bits .and .i64 is 8 = 8 := by rw [E8.out]; rfl
          go_wp2_with fail
          go_roundg (3 - 2)
          case measure => omega
          case rel => exact ⟨2, rfl, by omega, Nat.le_refl _, hq.out, HG.out⟩
      · have hq := hid (show Blk wr g t #[.int .i64 (trn h hi by_), .int .i64 (p), .int .i64 (b)] from HQ.out)
        have y0 := hq.out.cell 0
        have y1 := hq.out.cell 1
        have y2 := hq.out.cell 2
        have yf := hq.out.frozen
        simp only [List.getElem?_toArray, List.getElem?_cons_zero, List.getElem?_cons_succ] at y0 y1 y2
        have bx := bidx2
        cases nb
        · have ee : bits .and .i64 is 16 = 0 := by rw [E16.out]; rfl
          go_wp2_with fail
          go_roundg (3 - 3)
          case measure => omega
          case rel => exact ⟨3, rfl, by omega, Nat.le_refl _, hq.out, HG.out⟩
        · have ee : bits .and .i64 is 16 = 16 := by rw [E16.out]; rfl
          go_wp2_with fail
          go_roundg (3 - 3)
          case measure => omega
          case rel => exact ⟨3, rfl, by omega, Nat.le_refl _, hq.out, HG.out⟩
      · have HQF := hid (show Blk wr g t #[.int .i64 (trn h hi by_), .int .i64 (p), .int .i64 (b)] from HQ.out)
        go_wp2_with fail
        go_end0
        exact ⟨⟨_, rfl⟩, by have := HQF.out; rw [HD.out]; simpa [trn] using this, HG.out⟩
end Go.Proofs.YtlfbgaknljdanaaGreatDoor
