/- Texts of NeA, NeB, NeC, NeD, ExA, ExB, merged by a program of mine. -/
import Derived.Test.YtlfbgaknljdanaaGreatDoorElC
import Derived.StillTailTactics
import Derived.IntWalk
import Derived.BigQuiet

/- out of NeA -/
namespace Go.Proofs.YtlfbgaknljdanaaGreatDoor
open Go.RowKit
open Go.Lib (hid)
set_option linter.unusedVariables false
set_option maxRecDepth 100000

/-- A count, turned by an element. -/
def trn (n : Int) (is : Bool) (by_ : Int) : Int := if is = true then min (max (n + by_) 0) 255 else n
theorem trn_bd {n : Int} (h0 : 0 ≤ n) (h1 : n ≤ 255) (is : Bool) (by_ : Int) : 0 ≤ trn n is by_ ∧ trn n is by_ ≤ 255 := by
  unfold trn
  split <;> omega
def bitsC : Array Value := #[.int .i64 4, .int .i64 8, .int .i64 16]
theorem bits_any (w : World) : Calls Tryz.prog 96 #[] w fun e w' => e = .returned (.agg bitsC) ∧ Below w.heap.size w w' := by
  have hb := (Below.refl w.heap.size w).alloc (Nat.le_refl _) (.cells #[.int .i64 0, .int .i64 0, .int .i64 0] 92)
  have hk := Blk.new w 92 #[.int .i64 0, .int .i64 0, .int .i64 0]
  have y0 := hk.cell 0
  have y1 := hk.cell 1
  have y2 := hk.cell 2
  have yf := hk.frozen
  simp only [List.getElem?_toArray, List.getElem?_cons_zero, List.getElem?_cons_succ] at y0 y1 y2
  have HK := hid (show Blk ((((w.alloc (.cells #[.int .i64 0, .int .i64 0, .int .i64 0] 92)).setCell ⟨w.heap.size, 0, none⟩ (.int .i64 4)).setCell ⟨w.heap.size, 1, none⟩ (.int .i64 8)).setCell ⟨w.heap.size, 2, none⟩ (.int .i64 16)) w.heap.size 92 bitsC by
    have := ((hk.set_ 0 (.int .i64 4)).set_ 1 (.int .i64 8)).set_ 2 (.int .i64 16)
    simpa [bitsC] using this)
  have HB := hid (((hb.setCell (p := ⟨w.heap.size, 0, none⟩) (Nat.le_refl _) (.int .i64 4)).setCell (p := ⟨w.heap.size, 1, none⟩) (Nat.le_refl _) (.int .i64 8)).setCell (p := ⟨w.heap.size, 2, none⟩) (Nat.le_refl _) (.int .i64 16))
  clear hb hk
  go_enter Tryz.func96, Tryz.ntmps96
  go_upto_region 1 with fail
  generalize w.alloc (.cells #[.int .i64 0, .int .i64 0, .int .i64 0] 92) = w1 at *
  go_wp2_with fail
  generalize ((w1.setCell ⟨w.heap.size, 0, none⟩ (.int .i64 4)).setCell ⟨w.heap.size, 1, none⟩ (.int .i64 8)).setCell ⟨w.heap.size, 2, none⟩ (.int .i64 16) = w2 at *
  exact bodyPost_ret (results_cell_row rfl _ _ w.heap.size _ _ _ _ rfl HK.out Tryz.underlying92 rfl (by kernel_rfl)) rfl ⟨rfl, HB.out⟩
theorem bidx0 (w : World) : (Instr.index 92 (.agg #[.int .i64 4, .int .i64 8, .int .i64 16]) (.int .i64 0)).run Tryz.prog w = .ok (.int .i64 4) w := by kernel_rfl
theorem bidx1 (w : World) : (Instr.index 92 (.agg #[.int .i64 4, .int .i64 8, .int .i64 16]) (.int .i64 1)).run Tryz.prog w = .ok (.int .i64 8) w := by kernel_rfl
theorem bidx2 (w : World) : (Instr.index 92 (.agg #[.int .i64 4, .int .i64 8, .int .i64 16]) (.int .i64 2)).run Tryz.prog w = .ok (.int .i64 16) w := by kernel_rfl
def neC (i : Nat) (h p b h' p' b' : Int) : Array Value := #[.int .i64 (if 0 < i then h' else h), .int .i64 (if 1 < i then p' else p), .int .i64 (if 2 < i then b' else b)]
set_option maxHeartbeats 4000000 in
theorem add_any (g : Nat) (t : TypeId) (h p b is by_ : Int) (hi pr nb : Bool) (w : World) (hk : Blk w g t #[.int .i64 h, .int .i64 p, .int .i64 b]) (hh : 0 ≤ h ∧ h ≤ 255) (hp : 0 ≤ p ∧ p ≤ 255) (hb : 0 ≤ b ∧ b ≤ 255) (hby : by_ = 1 ∨ by_ = -1)
    (e4 : bits .and .i64 is 4 = if hi = true then 4 else 0) (e8 : bits .and .i64 is 8 = if pr = true then 8 else 0) (e16 : bits .and .i64 is 16 = if nb = true then 16 else 0) :
    Calls Tryz.prog 73 #[.pointer (some ⟨g, 0, none⟩), .int .i64 is, .int .i64 by_] w fun e w' => (∃ v, e = .returned v) ∧
      Blk w' g t #[.int .i64 (trn h hi by_), .int .i64 (trn p (decide (h = 0) && pr) by_), .int .i64 (trn b (decide (h = 0) && nb) by_)] ∧ w.grownBy w' (some g) := by
  have HK := hid hk
  have hg := hk.lt
  have x0 := hk.cell 0
  simp only [List.getElem?_toArray, List.getElem?_cons_zero] at x0
  have HBI := hid (fun W => bits_any W)
  clear hk
  have E4 := hid e4
  have E8 := hid e8
  have E16 := hid e16
  clear e4 e8 e16
  by_cases h0 : h = 0
  · subst h0
    have HD := hid (show decide ((0 : Int) = 0) = true from rfl)
    show Calls _ _ _ _ fun e w' => (∃ v, e = .returned v) ∧ Blk w' g t #[.int .i64 (trn 0 hi by_), .int .i64 (trn p pr by_), .int .i64 (trn b nb by_)] ∧ w.grownBy w' (some g)
    go_enter Tryz.func73, Tryz.ntmps73
    go_wp2_with fail
    refine (HBI.out _).mono ?_
    rintro e w2 ⟨rfl, hb2⟩
    have HK2 := hid (HK.out.below hb2 hg)
    have HG2 := hid (grown_of_below hb2 (some g))
    clear hb2 x0
    unfold bitsC
    go_wp2_with fail
    go_loopg [16] 3 (fun kx s16 wr => ∃ i : Nat, s16 = .int .i64 i ∧ i ≤ 3 ∧ 3 - i ≤ kx ∧ Hid (Blk wr g t (neC i 0 p b (trn 0 hi by_) (trn p pr by_) (trn b nb by_))) ∧ Hid (w.grownBy wr (some g)))
    case atStart => exact ⟨0, rfl, by omega, by omega, HK2.out, HG2.out⟩
    case round =>
      obtain ⟨i, rfl, hi3, hgk, HQ, HG⟩ := hrel
      rcases (by omega : i = 0 ∨ i = 1 ∨ i = 2 ∨ i = 3) with rfl | rfl | rfl | rfl
      · have hq := hid (show Blk wr g t #[.int .i64 (0), .int .i64 (p), .int .i64 (b)] from HQ.out)
        have y0 := hq.out.cell 0
        have y1 := hq.out.cell 1
        have y2 := hq.out.cell 2
        have yf := hq.out.frozen
        simp only [List.getElem?_toArray, List.getElem?_cons_zero, List.getElem?_cons_succ] at y0 y1 y2
        have bx := bidx0
        cases hi
        · have ee : bits .and .i64 is 4 = 0 := by rw [E4.out]; rfl
          go_wp2_with fail
          go_roundg (3 - 1)
          case measure => omega
          case rel => exact ⟨1, rfl, by omega, Nat.le_refl _, hq.out, HG.out⟩
        · have ee : bits .and .i64 is 4 = 4 := by rw [E4.out]; rfl
          have hw : IntKind.i64.wrap (0 + by_) = 0 + by_ := IntWalk.i64_in _ (by omega)
          go_upto_region 5 with fail
          go_still_tail 15, (by kernel_rfl)
          go_wp2_with fail
          have HQ7 := hid ((hq.out.set_ 0 (.int .i64 (min (max by_ 0) 255))).drew)
          have HG7 := hid ((HG.out.trans (grown_set wr g 0 (.int .i64 (min (max by_ 0) 255)))).trans ⟨rfl, rfl, rfl, Nat.le_refl _, fun _ _ _ => rfl⟩ : w.grownBy (wr.setCell ⟨g, 0, none⟩ (.int .i64 (min (max by_ 0) 255))).drew (some g))
          go_roundg (3 - 1)
          case measure => omega
          case rel =>
            refine ⟨1, rfl, by omega, Nat.le_refl _, ?_, ?_⟩
            · show Blk _ _ _ _
              have := HQ7.out
              simpa [neC, trn] using this
            · exact HG7.out
      · have hq := hid (show Blk wr g t #[.int .i64 (trn 0 hi by_), .int .i64 (p), .int .i64 (b)] from HQ.out)
        have y0 := hq.out.cell 0
        have y1 := hq.out.cell 1
        have y2 := hq.out.cell 2
        have yf := hq.out.frozen
        simp only [List.getElem?_toArray, List.getElem?_cons_zero, List.getElem?_cons_succ] at y0 y1 y2
        have bx := bidx1
        cases pr
        · have ee : bits .and .i64 is 8 = 0 := by rw [E8.out]; rfl
          go_wp2_with fail
          go_roundg (3 - 2)
          case measure => omega
          case rel => exact ⟨2, rfl, by omega, Nat.le_refl _, hq.out, HG.out⟩
        · have ee : bits .and .i64 is 8 = 8 := by rw [E8.out]; rfl
          have hw : IntKind.i64.wrap (p + by_) = p + by_ := IntWalk.i64_in _ (by omega)
          go_upto_region 5 with fail
          go_still_tail 15, (by kernel_rfl)
          go_wp2_with fail
          have HQ7 := hid ((hq.out.set_ 1 (.int .i64 (min (max (p + by_) 0) 255))).drew)
          have HG7 := hid ((HG.out.trans (grown_set wr g 1 (.int .i64 (min (max (p + by_) 0) 255)))).trans ⟨rfl, rfl, rfl, Nat.le_refl _, fun _ _ _ => rfl⟩ : w.grownBy (wr.setCell ⟨g, 1, none⟩ (.int .i64 (min (max (p + by_) 0) 255))).drew (some g))
          go_roundg (3 - 2)
          case measure => omega
          case rel =>
            refine ⟨2, rfl, by omega, Nat.le_refl _, ?_, ?_⟩
            · show Blk _ _ _ _
              have := HQ7.out
              simpa [neC, trn] using this
            · exact HG7.out
      · have hq := hid (show Blk wr g t #[.int .i64 (trn 0 hi by_), .int .i64 (trn p pr by_), .int .i64 (b)] from HQ.out)
        have y0 := hq.out.cell 0
        have y1 := hq.out.cell 1
        have y2 := hq.out.cell 2
        have yf := hq.out.frozen
        simp only [List.getElem?_toArray, List.getElem?_cons_zero, List.getElem?_cons_succ] at y0 y1 y2
        have bx := bidx2
        cases nb
        · have ee : bits .and .i64 is 16 = 0 := by rw [E16.out]; rfl
          go_wp2_with fail
          go_roundg (3 - 3)
          case measure => omega
          case rel => exact ⟨3, rfl, by omega, Nat.le_refl _, hq.out, HG.out⟩
        · have ee : bits .and .i64 is 16 = 16 := by rw [E16.out]; rfl
          have hw : IntKind.i64.wrap (b + by_) = b + by_ := IntWalk.i64_in _ (by omega)
          go_upto_region 5 with fail
          go_still_tail 15, (by kernel_rfl)
          go_wp2_with fail
          have HQ7 := hid ((hq.out.set_ 2 (.int .i64 (min (max (b + by_) 0) 255))).drew)
          have HG7 := hid ((HG.out.trans (grown_set wr g 2 (.int .i64 (min (max (b + by_) 0) 255)))).trans ⟨rfl, rfl, rfl, Nat.le_refl _, fun _ _ _ => rfl⟩ : w.grownBy (wr.setCell ⟨g, 2, none⟩ (.int .i64 (min (max (b + by_) 0) 255))).drew (some g))
          go_roundg (3 - 3)
          case measure => omega
          case rel =>
            refine ⟨3, rfl, by omega, Nat.le_refl _, ?_, ?_⟩
            · show Blk _ _ _ _
              have := HQ7.out
              simpa [neC, trn] using this
            · exact HG7.out
      · have HQF := hid (show Blk wr g t #[.int .i64 (trn 0 hi by_), .int .i64 (trn p pr by_), .int .i64 (trn b nb by_)] from HQ.out)
        go_wp2_with fail
        go_end0
        exact ⟨⟨_, rfl⟩, HQF.out, HG.out⟩
  · have h0b : (h == 0) = false := by simpa using h0
    have HD := hid (show decide (h = 0) = false from decide_eq_false h0)
    clear h0
    go_enter Tryz.func73, Tryz.ntmps73
    go_wp2_with fail
    refine (HBI.out _).mono ?_
    rintro e w2 ⟨rfl, hb2⟩
    have HK2 := hid (HK.out.below hb2 hg)
    have HG2 := hid (grown_of_below hb2 (some g))
    clear hb2 x0
    unfold bitsC
    go_wp2_with fail
    go_loopg [16] 3 (fun kx s16 wr => ∃ i : Nat, s16 = .int .i64 i ∧ i ≤ 3 ∧ 3 - i ≤ kx ∧ Hid (Blk wr g t (neC i h p b (trn h hi by_) (p) (b))) ∧ Hid (w.grownBy wr (some g)))
    case atStart => exact ⟨0, rfl, by omega, by omega, HK2.out, HG2.out⟩
    case round =>
      obtain ⟨i, rfl, hi3, hgk, HQ, HG⟩ := hrel
      rcases (by omega : i = 0 ∨ i = 1 ∨ i = 2 ∨ i = 3) with rfl | rfl | rfl | rfl
      · have hq := hid (show Blk wr g t #[.int .i64 (h), .int .i64 (p), .int .i64 (b)] from HQ.out)
        have y0 := hq.out.cell 0
        have y1 := hq.out.cell 1
        have y2 := hq.out.cell 2
        have yf := hq.out.frozen
        simp only [List.getElem?_toArray, List.getElem?_cons_zero, List.getElem?_cons_succ] at y0 y1 y2
        have bx := bidx0
        cases hi
        · have ee : bits .and .i64 is 4 = 0 := by rw [E4.out]; rfl
          go_wp2_with fail
          go_roundg (3 - 1)
          case measure => omega
          case rel => exact ⟨1, rfl, by omega, Nat.le_refl _, hq.out, HG.out⟩
        · have ee : bits .and .i64 is 4 = 4 := by rw [E4.out]; rfl
          have hw : IntKind.i64.wrap (h + by_) = h + by_ := IntWalk.i64_in _ (by omega)
          go_upto_region 5 with fail
          go_still_tail 15, (by kernel_rfl)
          go_wp2_with fail
          have HQ7 := hid ((hq.out.set_ 0 (.int .i64 (min (max (h + by_) 0) 255))).drew)
          have HG7 := hid ((HG.out.trans (grown_set wr g 0 (.int .i64 (min (max (h + by_) 0) 255)))).trans ⟨rfl, rfl, rfl, Nat.le_refl _, fun _ _ _ => rfl⟩ : w.grownBy (wr.setCell ⟨g, 0, none⟩ (.int .i64 (min (max (h + by_) 0) 255))).drew (some g))
          go_roundg (3 - 1)
          case measure => omega
          case rel =>
            refine ⟨1, rfl, by omega, Nat.le_refl _, ?_, ?_⟩
            · show Blk _ _ _ _
              have := HQ7.out
              simpa [neC, trn] using this
            · exact HG7.out
      · have hq := hid (show Blk wr g t #[.int .i64 (trn h hi by_), .int .i64 (p), .int .i64 (b)] from HQ.out)
        have y0 := hq.out.cell 0
        have y1 := hq.out.cell 1
        have y2 := hq.out.cell 2
        have yf := hq.out.frozen
        simp only [List.getElem?_toArray, List.getElem?_cons_zero, List.getElem?_cons_succ] at y0 y1 y2
        have bx := bidx1
        cases pr
        · have ee : bits .and .i64 is 8 = 0 := by rw [E8.out]; rfl
          go_wp2_with fail
          go_roundg (3 - 2)
          case measure => omega
          case rel => exact ⟨2, rfl, by omega, Nat.le_refl _, hq.out, HG.out⟩
        · have ee : bits .and .i64 is 8 = 8 := by rw [E8.out]; rfl
          go_wp2_with fail
          go_roundg (3 - 2)
          case measure => omega
          case rel => exact ⟨2, rfl, by omega, Nat.le_refl _, hq.out, HG.out⟩
      · have hq := hid (show Blk wr g t #[.int .i64 (trn h hi by_), .int .i64 (p), .int .i64 (b)] from HQ.out)
        have y0 := hq.out.cell 0
        have y1 := hq.out.cell 1
        have y2 := hq.out.cell 2
        have yf := hq.out.frozen
        simp only [List.getElem?_toArray, List.getElem?_cons_zero, List.getElem?_cons_succ] at y0 y1 y2
        have bx := bidx2
        cases nb
        · have ee : bits .and .i64 is 16 = 0 := by rw [E16.out]; rfl
          go_wp2_with fail
          go_roundg (3 - 3)
          case measure => omega
          case rel => exact ⟨3, rfl, by omega, Nat.le_refl _, hq.out, HG.out⟩
        · have ee : bits .and .i64 is 16 = 16 := by rw [E16.out]; rfl
          go_wp2_with fail
          go_roundg (3 - 3)
          case measure => omega
          case rel => exact ⟨3, rfl, by omega, Nat.le_refl _, hq.out, HG.out⟩
      · have HQF := hid (show Blk wr g t #[.int .i64 (trn h hi by_), .int .i64 (p), .int .i64 (b)] from HQ.out)
        go_wp2_with fail
        go_end0
        exact ⟨⟨_, rfl⟩, by have := HQF.out; rw [HD.out]; simpa [trn] using this, HG.out⟩
end Go.Proofs.YtlfbgaknljdanaaGreatDoor

/- out of NeB -/
namespace Go.Proofs.YtlfbgaknljdanaaGreatDoor
open Go.RowKit
open Go.Lib (hid)
set_option linter.unusedVariables false
set_option maxRecDepth 100000

theorem an2 : ∀ a b c d e f g : Bool, bits .and .i64 (v7 a b c d e f g) 2 = if b = true then 2 else 0 := by decide +kernel
theorem an4 : ∀ a b c d e f g : Bool, bits .and .i64 (v7 a b c d e f g) 4 = if c = true then 4 else 0 := by decide +kernel
theorem an8 : ∀ a b c d e f g : Bool, bits .and .i64 (v7 a b c d e f g) 8 = if d = true then 8 else 0 := by decide +kernel
theorem an16 : ∀ a b c d e f g : Bool, bits .and .i64 (v7 a b c d e f g) 16 = if e = true then 16 else 0 := by decide +kernel
theorem an1 : ∀ a b c d e f g : Bool, (bits .and .i64 (v7 a b c d e f g) 1 != 0) = a := by decide +kernel
theorem an33 : ∀ a b c d e f g : Bool, (bits .and .i64 (v7 a b c d e f g) 33 != 0) = (a || f) := by decide +kernel
theorem an64 : ∀ a b c d e f g : Bool, (bits .and .i64 (v7 a b c d e f g) 64 != 0) = g := by decide +kernel
/-- A nest's counts. -/
structure Ne where
  h : Int
  p : Int
  b : Int
def Ne.ok (n : Ne) : Prop := (0 ≤ n.h ∧ n.h ≤ 255) ∧ (0 ≤ n.p ∧ n.p ≤ 255) ∧ (0 ≤ n.b ∧ n.b ≤ 255)
def Ne.cells (n : Ne) : Array Value := #[.int .i64 n.h, .int .i64 n.p, .int .i64 n.b]
def Ne.add (n : Ne) (c d e : Bool) (by_ : Int) : Ne := ⟨trn n.h c by_, trn n.p (decide (n.h = 0) && d) by_, trn n.b (decide (n.h = 0) && e) by_⟩
theorem Ne.add_ok {n : Ne} (h : n.ok) (c d e : Bool) (by_ : Int) : (n.add c d e by_).ok := ⟨trn_bd h.1.1 h.1.2 _ _, trn_bd h.2.1.1 h.2.1.2 _ _, trn_bd h.2.2.1 h.2.2.2 _ _⟩
/-- What an element is: block, void, hidden, pre, nobr, br, wbr. -/
def neStart (n : Ne) (x : ByteArray) (sg : Bool) : Ne × Bool × Bool :=
  (if (!sg && !inN 1 x) = true then n.add (inN 2 x) (inN 3 x) (inN 4 x) 1 else n, decide (n.h = 0) && (inN 0 x || inN 5 x), decide (n.h = 0) && inN 6 x)
def neEnd (n : Ne) (x : ByteArray) : Ne × Bool :=
  if inN 1 x = true then (n, false) else (n.add (inN 2 x) (inN 3 x) (inN 4 x) (-1), decide (n.h = 0) && inN 0 x)
theorem neStart_ok {n : Ne} (h : n.ok) (x : ByteArray) (sg : Bool) : (neStart n x sg).1.ok := by
  unfold neStart
  split
  · exact Ne.add_ok h _ _ _ _
  · exact h
theorem neEnd_ok {n : Ne} (h : n.ok) (x : ByteArray) : (neEnd n x).1.ok := by
  unfold neEnd
  split
  · exact h
  · exact Ne.add_ok h _ _ _ _
set_option maxHeartbeats 4000000 in
theorem nstart_any (q : Nat) (ty : TypeId) (n : Ne) (x : ByteArray) (tc : Array Value) (sg : Bool) (w : World) (hk : Blk w q ty n.cells) (hn : n.ok) (k f t r : Int) (nm : ByteArray) (htc : tc = #[.int .i64 k, .int .i64 f, .int .i64 t, .string nm, .int .i32 r, .bool sg]) :
    Calls Tryz.prog 55 #[.pointer (some ⟨q, 0, none⟩), .agg tc, .int .i64 (elV x)] w fun e w' => e = .returned (.tuple #[.bool (neStart n x sg).2.1, .bool (neStart n x sg).2.2]) ∧
      Blk w' q ty (neStart n x sg).1.cells ∧ w.grownBy w' (some q) := by
  subst htc
  obtain ⟨h, p, b⟩ := n
  obtain ⟨hh, hp, hb⟩ := hn
  simp only at hh hp hb
  have e2 := an2 (inN 0 x) (inN 1 x) (inN 2 x) (inN 3 x) (inN 4 x) (inN 5 x) (inN 6 x)
  have e4 := an4 (inN 0 x) (inN 1 x) (inN 2 x) (inN 3 x) (inN 4 x) (inN 5 x) (inN 6 x)
  have e8 := an8 (inN 0 x) (inN 1 x) (inN 2 x) (inN 3 x) (inN 4 x) (inN 5 x) (inN 6 x)
  have e16 := an16 (inN 0 x) (inN 1 x) (inN 2 x) (inN 3 x) (inN 4 x) (inN 5 x) (inN 6 x)
  have e33 := an33 (inN 0 x) (inN 1 x) (inN 2 x) (inN 3 x) (inN 4 x) (inN 5 x) (inN 6 x)
  have e64 := an64 (inN 0 x) (inN 1 x) (inN 2 x) (inN 3 x) (inN 4 x) (inN 5 x) (inN 6 x)
  have hEV : elV x = v7 (inN 0 x) (inN 1 x) (inN 2 x) (inN 3 x) (inN 4 x) (inN 5 x) (inN 6 x) := rfl
  rw [← hEV] at e2 e4 e8 e16 e33 e64
  simp only [neStart, Ne.add, Ne.cells]
  have hbx := (Below.refl w.heap.size w).alloc (Nat.le_refl _) (.cells #[.int .i64 k, .int .i64 f, .int .i64 t, .string nm, .int .i32 r, .bool sg] 30)
  have hk1 := hk.alloc (.cells #[.int .i64 k, .int .i64 f, .int .i64 t, .string nm, .int .i32 r, .bool sg] 30)
  have hx := (Blk.new w 30 #[.int .i64 k, .int .i64 f, .int .i64 t, .string nm, .int .i32 r, .bool sg]).cell 5
  have y0 := hk1.cell 0
  simp only [Ne.cells, List.getElem?_toArray, List.getElem?_cons_zero, List.getElem?_cons_succ] at hx y0
  have HADD := hid (fun W (hW : Blk W q ty #[.int .i64 h, .int .i64 p, .int .i64 b]) => add_any q ty h p b (elV x) 1 (inN 2 x) (inN 3 x) (inN 4 x) W hW hh hp hb (.inl rfl) e4 e8 e16)
  have HK1 := hid hk1
  have HG1 := hid (grown_of_below hbx (some q))
  generalize elV x = is at *
  generalize inN 0 x = fa at *
  generalize inN 1 x = fb at *
  generalize inN 2 x = fc at *
  generalize inN 3 x = fd at *
  generalize inN 4 x = fe at *
  generalize inN 5 x = ff at *
  generalize inN 6 x = fg at *
  clear hEV e4 e8 e16 hk hk1 hbx
  by_cases h0 : h = 0
  · subst h0
    cases sg
    · cases fb
      · have e2' : bits .and .i64 is 2 = 0 := e2
        clear e2
        go_enter Tryz.func55, Tryz.ntmps55
        go_wp2_with fail
        refine (HADD.out _ HK1.out).mono ?_
        rintro e w2 ⟨⟨v, rfl⟩, hk2, hg2⟩
        have HK2 := hid hk2
        have HG2 := hid (HG1.out.trans hg2)
        clear hk2 hg2 hx y0
        go_wp2_with fail
        go_ret2
        exact ⟨rfl, HK2.out, HG2.out⟩
      · have e2' : bits .and .i64 is 2 = 2 := e2
        clear e2
        go_enter Tryz.func55, Tryz.ntmps55
        go_wp2_with fail
        go_ret2
        exact ⟨rfl, HK1.out, HG1.out⟩
    · have e2' : True := trivial
      clear e2
      go_enter Tryz.func55, Tryz.ntmps55
      go_wp2_with fail
      go_ret2
      exact ⟨rfl, HK1.out, HG1.out⟩
  · have HD := hid (show decide (h = 0) = false from decide_eq_false h0)
    have h0b : (h == 0) = false := by simpa using h0
    cases sg
    · cases fb
      · have e2' : bits .and .i64 is 2 = 0 := e2
        clear e2
        go_enter Tryz.func55, Tryz.ntmps55
        go_wp2_with fail
        refine (HADD.out _ HK1.out).mono ?_
        rintro e w2 ⟨⟨v, rfl⟩, hk2, hg2⟩
        have HK2 := hid hk2
        have HG2 := hid (HG1.out.trans hg2)
        clear hk2 hg2 hx y0
        go_wp2_with fail
        go_ret2
        exact ⟨by first | rfl | (rw [HD.out]; rfl), by first | exact HK2.out | (have h5 := HK2.out; rw [HD.out] at h5; exact h5), HG2.out⟩
      · have e2' : bits .and .i64 is 2 = 2 := e2
        clear e2
        go_enter Tryz.func55, Tryz.ntmps55
        go_wp2_with fail
        go_ret2
        exact ⟨by first | rfl | (rw [HD.out]; rfl), HK1.out, HG1.out⟩
    · have e2' : True := trivial
      clear e2
      go_enter Tryz.func55, Tryz.ntmps55
      go_wp2_with fail
      go_ret2
      exact ⟨by first | rfl | (rw [HD.out]; rfl), HK1.out, HG1.out⟩
set_option maxHeartbeats 4000000 in
theorem nend_any (q : Nat) (ty : TypeId) (n : Ne) (x : ByteArray) (w : World) (hk : Blk w q ty n.cells) (hn : n.ok) :
    Calls Tryz.prog 57 #[.pointer (some ⟨q, 0, none⟩), .int .i64 (elV x)] w fun e w' => e = .returned (.bool (neEnd n x).2) ∧
      Blk w' q ty (neEnd n x).1.cells ∧ w.grownBy w' (some q) := by
  obtain ⟨h, p, b⟩ := n
  obtain ⟨hh, hp, hb⟩ := hn
  simp only at hh hp hb
  have e2 := an2 (inN 0 x) (inN 1 x) (inN 2 x) (inN 3 x) (inN 4 x) (inN 5 x) (inN 6 x)
  have e4 := an4 (inN 0 x) (inN 1 x) (inN 2 x) (inN 3 x) (inN 4 x) (inN 5 x) (inN 6 x)
  have e8 := an8 (inN 0 x) (inN 1 x) (inN 2 x) (inN 3 x) (inN 4 x) (inN 5 x) (inN 6 x)
  have e16 := an16 (inN 0 x) (inN 1 x) (inN 2 x) (inN 3 x) (inN 4 x) (inN 5 x) (inN 6 x)
  have e1 := an1 (inN 0 x) (inN 1 x) (inN 2 x) (inN 3 x) (inN 4 x) (inN 5 x) (inN 6 x)
  have hEV : elV x = v7 (inN 0 x) (inN 1 x) (inN 2 x) (inN 3 x) (inN 4 x) (inN 5 x) (inN 6 x) := rfl
  rw [← hEV] at e2 e4 e8 e16 e1
  simp only [neEnd, Ne.add, Ne.cells]
  have y0 := hk.cell 0
  simp only [Ne.cells, List.getElem?_toArray, List.getElem?_cons_zero] at y0
  have HADD := hid (fun W (hW : Blk W q ty #[.int .i64 h, .int .i64 p, .int .i64 b]) => add_any q ty h p b (elV x) (-1) (inN 2 x) (inN 3 x) (inN 4 x) W hW hh hp hb (.inr rfl) e4 e8 e16)
  have HK1 := hid hk
  generalize elV x = is at *
  generalize inN 0 x = fa at *
  generalize inN 1 x = fb at *
  generalize inN 2 x = fc at *
  generalize inN 3 x = fd at *
  generalize inN 4 x = fe at *
  clear hEV e4 e8 e16 hk
  cases fb
  · have e2' : bits .and .i64 is 2 = 0 := e2
    clear e2
    by_cases h0 : h = 0
    · subst h0
      go_enter Tryz.func57, Tryz.ntmps57
      go_wp2_with fail
      refine (HADD.out _ HK1.out).mono ?_
      rintro e w2 ⟨⟨v, rfl⟩, hk2, hg2⟩
      have HK2 := hid hk2
      have HG2 := hid hg2
      clear hk2 hg2 y0
      go_wp2_with fail
      go_ret
      exact ⟨rfl, HK2.out, HG2.out⟩
    · have HD := hid (show decide (h = 0) = false from decide_eq_false h0)
      have h0b : (h == 0) = false := by simpa using h0
      go_enter Tryz.func57, Tryz.ntmps57
      go_wp2_with fail
      refine (HADD.out _ HK1.out).mono ?_
      rintro e w2 ⟨⟨v, rfl⟩, hk2, hg2⟩
      have HK2 := hid hk2
      have HG2 := hid hg2
      clear hk2 hg2 y0
      go_wp2_with fail
      go_ret
      exact ⟨by first | rfl | (rw [HD.out]; rfl), by first | exact HK2.out | (have h5 := HK2.out; rw [HD.out] at h5; exact h5), HG2.out⟩
  · have e2' : bits .and .i64 is 2 = 2 := e2
    clear e2
    go_enter Tryz.func57, Tryz.ntmps57
    go_wp2_with fail
    go_ret
    exact ⟨rfl, HK1.out, ⟨rfl, rfl, rfl, Nat.le_refl _, fun _ _ _ => rfl⟩⟩
end Go.Proofs.YtlfbgaknljdanaaGreatDoor

/- out of NeC -/
namespace Go.Proofs.YtlfbgaknljdanaaGreatDoor
open Go.RowKit
open Go.Lib (hid)
set_option linter.unusedVariables false
set_option maxRecDepth 100000

/-- A token, taken: the nest behind it; is a break forced; is there a chance? -/
def neTake (n : Ne) (k : Int) (x : ByteArray) (sg : Bool) : Ne × Bool × Bool :=
  if k = 2 then neStart n x sg else if k = 3 then ((neEnd n x).1, (neEnd n x).2, false) else (n, false, false)
theorem neTake_ok {n : Ne} (h : n.ok) (k : Int) (x : ByteArray) (sg : Bool) : (neTake n k x sg).1.ok := by
  unfold neTake
  split
  · exact neStart_ok h x sg
  · split
    · exact neEnd_ok h x
    · exact h
/-- A token's box, its cells alone. -/
def NB (B : Nat) (k f t : Int) (nm : ByteArray) (r : Int) (sg : Bool) (w' : World) : Prop :=
  w'.cell? ⟨B, 0, none⟩ = some (.int .i64 k) ∧ w'.cell? ⟨B, 1, none⟩ = some (.int .i64 f) ∧ w'.cell? ⟨B, 2, none⟩ = some (.int .i64 t) ∧ w'.cell? ⟨B, 3, none⟩ = some (.string nm) ∧ w'.cell? ⟨B, 4, none⟩ = some (.int .i32 r) ∧ w'.cell? ⟨B, 5, none⟩ = some (.bool sg) ∧ B < w'.heap.size
theorem NB_next {B : Nat} {k f t : Int} {nm : ByteArray} {r : Int} {sg : Bool} {w1 w2 : World} {q : Nat} (h : NB B k f t nm r sg w1) (hq : q ≠ B) (hg : w1.grownBy w2 (some q)) : NB B k f t nm r sg w2 := by
  obtain ⟨h0, h1, h2, h3, h4, h5, h7⟩ := h
  have hc : ∀ o, w2.cell? ⟨B, o, none⟩ = w1.cell? ⟨B, o, none⟩ := fun o => by
    have hbk := hg.block B h7 (by simpa using fun e => hq e.symm)
    first
      | (simp only [World.cell?, World.block?, hbk])
      | (unfold World.cell?; rw [hbk])
      | (simp [World.cell?, hbk])
  exact ⟨(hc 0).trans h0, (hc 1).trans h1, (hc 2).trans h2, (hc 3).trans h3, (hc 4).trans h4, (hc 5).trans h5, Nat.lt_of_lt_of_le h7 hg.size⟩
set_option maxHeartbeats 4000000 in
theorem nTake_any (q : Nat) (ty : TypeId) (n : Ne) (k f t r : Int) (nm : ByteArray) (sg : Bool) (w : World) (hk : Blk w q ty n.cells) (hn : n.ok) (hx : nm.size ≤ maxLen) (ht : TabSp w) :
    Calls Tryz.prog 37 #[.pointer (some ⟨q, 0, none⟩), .agg #[.int .i64 k, .int .i64 f, .int .i64 t, .string nm, .int .i32 r, .bool sg]] w fun e w' => e = .returned (.tuple #[.bool (neTake n k nm sg).2.1, .bool (neTake n k nm sg).2.2]) ∧
      Blk w' q ty (neTake n k nm sg).1.cells ∧ w.grownBy w' (some q) := by
  have hbx := (Below.refl w.heap.size w).alloc (Nat.le_refl _) (.cells #[.int .i64 k, .int .i64 f, .int .i64 t, .string nm, .int .i32 r, .bool sg] 30)
  have hk1 := hk.alloc (.cells #[.int .i64 k, .int .i64 f, .int .i64 t, .string nm, .int .i32 r, .bool sg] 30)
  have hq := Blk.new w 30 #[.int .i64 k, .int .i64 f, .int .i64 t, .string nm, .int .i32 r, .bool sg]
  have x0 := hq.cell 0
  have x1 := hq.cell 1
  have x2 := hq.cell 2
  have x3 := hq.cell 3
  have x4 := hq.cell 4
  have x5 := hq.cell 5
  simp only [List.getElem?_toArray, List.getElem?_cons_zero, List.getElem?_cons_succ] at x0 x1 x2 x3 x4 x5
  have HOF := hid (fun W (h : Below w.heap.size w W) => elOf_any nm hx W (ht.below h (Nat.le_refl _)))
  have HK1 := hid hk1
  have HB1 := hid hbx
  have HG1 := hid (grown_of_below hbx (some q))
  have HQL := hid hk1.lt
  have HQ := hid (show q ≠ w.heap.size from Nat.ne_of_lt hk.lt)
  have hlt := hq.lt
  clear hk hk1 hbx hq ht
  by_cases hk2 : k = 2
  · subst hk2
    have HS := hid (fun W (hW : Blk W q ty n.cells) => nstart_any q ty n nm _ sg W hW hn 2 f t r nm rfl)
    rw [show neTake n 2 nm sg = neStart n nm sg from rfl]
    go_enter Tryz.func37, Tryz.ntmps37
    go_upto_region 5 with fail
    generalize w.alloc (.cells #[.int .i64 2, .int .i64 f, .int .i64 t, .string nm, .int .i32 r, .bool sg] 30) = w1 at *
    have HNE := hid (show q ≠ w.heap.size from HQ.out)
    refine wp_region_held_drew (S := fun w' : World => w'.cell? ⟨w.heap.size, 0, none⟩ = some (.int .i64 2) ∧ w'.cell? ⟨w.heap.size, 1, none⟩ = some (.int .i64 f) ∧ w'.cell? ⟨w.heap.size, 2, none⟩ = some (.int .i64 t) ∧ w'.cell? ⟨w.heap.size, 3, none⟩ = some (.string nm) ∧ w'.cell? ⟨w.heap.size, 4, none⟩ = some (.int .i32 r) ∧ w'.cell? ⟨w.heap.size, 5, none⟩ = some (.bool sg) ∧ w.heap.size < w'.heap.size) (by kernel_rfl) ⟨x0, x1, x2, x3, x4, x5, hlt⟩ (fun hHeld => ?_)
    clear x0 x1 x2 x3 x4 x5
    refine wpAnyH_take (i := 0) (v := ?hv1) rfl (by kernel_rfl) (by kernel_rfl) (by kernel_rfl) (fun _ _ _ h => h) (Or.inl ⟨by rfl, ?hy1⟩) (by assumption) ?hr1
    case hy1 => (intro w hSw; (try dsimp only at hSw); go_simp; try with_reducible rfl)
    (try simp only [Act.put, List.getElem_toArray, List.getElem_cons_zero, List.setIfInBounds_toArray, List.set_cons_zero, List.set_cons_succ])
    refine wpAnyH_take (i := 1) (v := ?hv2) rfl (by kernel_rfl) (by kernel_rfl) (by kernel_rfl) (fun _ _ _ h => h) (Or.inl ⟨by rfl, ?hy2⟩) (by assumption) ?hr2
    case hy2 => (intro w hSw; (try dsimp only at hSw); go_simp; try with_reducible rfl)
    (try simp only [Act.put, List.getElem_toArray, List.getElem_cons_zero, List.getElem_cons_succ, List.setIfInBounds_toArray, List.set_cons_zero, List.set_cons_succ])
    refine wpAnyH_take (i := 2) (v := ?hv3) rfl (by kernel_rfl) (by kernel_rfl) (by kernel_rfl) (fun _ _ _ h => h) (Or.inl ⟨by rfl, ?hy3⟩) (by assumption) ?hr3
    case hy3 => (intro w hSw; (try dsimp only at hSw); go_simp; try with_reducible rfl)
    (try simp only [Act.put, List.getElem_toArray, List.getElem_cons_zero, List.getElem_cons_succ, List.setIfInBounds_toArray, List.set_cons_zero, List.set_cons_succ])
    refine wpAnyH_take (i := 3) (v := ?hv4) rfl (by kernel_rfl) (by kernel_rfl) (by kernel_rfl) (fun _ _ _ h => h) (Or.inl ⟨by rfl, ?hy4⟩) (by assumption) ?hr4
    case hy4 => (intro w hSw; (try dsimp only at hSw); go_simp; try with_reducible rfl)
    (try simp only [Act.put, List.getElem_toArray, List.getElem_cons_zero, List.getElem_cons_succ, List.setIfInBounds_toArray, List.set_cons_zero, List.set_cons_succ])
    refine wpAnyH_ready (rs := [4]) (by kernel_rfl) (by simp) ?_
    refine AllReadyH.cons rfl (fun K hK => ?_) AllReadyH.nil
    go_simp
    go_at_call 56
    refine (HOF.out _ HB1.out.drew).mono ?_
    rintro e w4 ⟨rfl, hb4⟩
    have HG4 := hid (grown_of_below hb4 (some q))
    have HK4 := hid (HK1.out.drew.below hb4 HQL.out)
    go_wp2_with fail
    refine hK.out _ _ (NB_next hHeld HNE.out HG4.out) (fun hHeld2 => ?_)
    clear hK K hHeld hb4
    refine wpAnyH_ready (rs := [5]) (by kernel_rfl) (by simp) ?_
    refine AllReadyH.cons rfl (fun K hK => ?_) AllReadyH.nil
    go_simp
    refine (HS.out _ HK4.out).mono ?_
    rintro e w5 ⟨rfl, hk5, hg5⟩
    have HK5 := hid hk5
    have HG5 := hid hg5
    clear hk5 hg5
    go_wp2_with fail
    refine hK.out _ _ (NB_next hHeld2 HNE.out HG5.out) (fun hHeld3 => ?_)
    clear hK K hHeld2
    refine wpAnyH_take (i := 6) (v := ?hv5) rfl (by kernel_rfl) (by kernel_rfl) (by kernel_rfl) (fun _ _ _ h => h) (Or.inl ⟨by rfl, ?hy5⟩) (by assumption) ?hr5
    case hy5 => (intro w hSw; (try dsimp only at hSw); go_simp; try with_reducible rfl)
    (try simp only [Act.put, List.getElem_toArray, List.getElem_cons_zero, List.getElem_cons_succ, List.setIfInBounds_toArray, List.set_cons_zero, List.set_cons_succ])
    refine wpAnyH_take (i := 7) (v := ?hv6) rfl (by kernel_rfl) (by kernel_rfl) (by kernel_rfl) (fun _ _ _ h => h) (Or.inl ⟨by rfl, ?hy6⟩) (by assumption) ?hr6
    case hy6 => (intro w hSw; (try dsimp only at hSw); go_simp; try with_reducible rfl)
    (try simp only [Act.put, List.getElem_toArray, List.getElem_cons_zero, List.getElem_cons_succ, List.setIfInBounds_toArray, List.set_cons_zero, List.set_cons_succ])
    refine wpAnyH_take (i := 8) (v := ?hv7) rfl (by kernel_rfl) (by kernel_rfl) (by kernel_rfl) (fun _ _ _ h => h) (Or.inl ⟨by rfl, ?hy7⟩) (by assumption) ?hr7
    case hy7 => (intro w hSw; (try dsimp only at hSw); go_simp; try with_reducible rfl)
    (try simp only [Act.put, List.getElem_toArray, List.getElem_cons_zero, List.getElem_cons_succ, List.setIfInBounds_toArray, List.set_cons_zero, List.set_cons_succ])
    refine wpAnyH_take (i := 9) (v := ?hv8) rfl (by kernel_rfl) (by kernel_rfl) (by kernel_rfl) (fun _ _ _ h => h) (Or.inl ⟨by rfl, ?hy8⟩) (by assumption) ?hr8
    case hy8 => (intro w hSw; (try dsimp only at hSw); go_simp; try with_reducible rfl)
    (try simp only [Act.put, List.getElem_toArray, List.getElem_cons_zero, List.getElem_cons_succ, List.setIfInBounds_toArray, List.set_cons_zero, List.set_cons_succ])
    refine wpAnyH_done (by kernel_rfl) ?_ _
    go_wp2_with fail
    go_ret2
    exact ⟨rfl, HK5.out, ((HG1.out.trans (⟨rfl, rfl, rfl, Nat.le_refl _, fun _ _ _ => rfl⟩ : w1.grownBy w1.drew (some q))).trans HG4.out).trans HG5.out⟩
  · by_cases hk3 : k = 3
    · subst hk3
      have HS := hid (fun W (hW : Blk W q ty n.cells) => nend_any q ty n nm W hW hn)
      rw [show neTake n 3 nm sg = ((neEnd n nm).1, (neEnd n nm).2, false) from rfl]
      clear hk2
      go_enter Tryz.func37, Tryz.ntmps37
      go_wp2_with fail
      generalize w.alloc (.cells #[.int .i64 3, .int .i64 f, .int .i64 t, .string nm, .int .i32 r, .bool sg] 30) = w1 at *
      refine (HOF.out _ HB1.out).mono ?_
      rintro e w4 ⟨rfl, hb4⟩
      have HG4 := hid (grown_of_below hb4 (some q))
      have HK4 := hid (HK1.out.below hb4 HQL.out)
      clear hb4 x0 x1 x2 x3 x4 x5
      go_wp2_with fail
      refine (HS.out _ HK4.out).mono ?_
      rintro e w5 ⟨rfl, hk5, hg5⟩
      have HK5 := hid hk5
      have HG5 := hid hg5
      clear hk5 hg5
      go_wp2_with fail
      go_ret2
      exact ⟨rfl, HK5.out, (HG1.out.trans HG4.out).trans HG5.out⟩
    · have h2b : (k == 2) = false := by simpa using hk2
      have h3b : (k == 3) = false := by simpa using hk3
      rw [show neTake n k nm sg = (n, false, false) by unfold neTake; rw [if_neg hk2, if_neg hk3]]
      go_enter Tryz.func37, Tryz.ntmps37
      go_wp2_with fail
      go_ret2
      exact ⟨rfl, HK1.out, HG1.out⟩
end Go.Proofs.YtlfbgaknljdanaaGreatDoor

/- out of NeD -/
namespace Go.Proofs.YtlfbgaknljdanaaGreatDoor
open Go.RowKit
open Go.Lib (hid)
set_option linter.unusedVariables false
set_option linter.unusedSimpArgs false
set_option maxRecDepth 100000

set_option maxHeartbeats 1000000 in
/-- Without a nest every token is taken for nothing. -/
theorem nTake_nil (tk : Array Value) (k f t r : Int) (nm : ByteArray) (sg : Bool) (w : World) (htk : tk = #[.int .i64 k, .int .i64 f, .int .i64 t, .string nm, .int .i32 r, .bool sg]) : Calls Tryz.prog 37 #[.pointer none, .agg tk] w fun e w' => e = .returned (.tuple #[.bool false, .bool false]) ∧ Below w.heap.size w w' := by
  subst htk
  have HB1 := hid ((Below.refl w.heap.size w).alloc (Nat.le_refl _) (.cells #[.int .i64 k, .int .i64 f, .int .i64 t, .string nm, .int .i32 r, .bool sg] 30))
  go_enter Tryz.func37, Tryz.ntmps37
  go_wp2_with fail
  go_ret2
  exact ⟨rfl, HB1.out⟩
theorem count_nil (i : Int) (w : World) : Calls Tryz.prog 58 #[.pointer none, .int .i64 i] w fun e w' => e = .returned (.int .i64 0) ∧ w' = w := by
  go_enter Tryz.func58, Tryz.ntmps58
  go_wp2_with fail
  go_ret
  exact ⟨rfl, rfl⟩
theorem count0_any (q : Nat) (ty : TypeId) (n : Ne) (w : World) (hk : Blk w q ty n.cells) : Calls Tryz.prog 58 #[.pointer (some ⟨q, 0, none⟩), .int .i64 0] w fun e w' => e = .returned (.int .i64 n.h) ∧ w' = w := by
  obtain ⟨h, p, b⟩ := n
  have y := hk.cell 0
  have y0 := hk.cell 0
  simp only [Ne.cells, List.getElem?_toArray, List.getElem?_cons_zero, List.getElem?_cons_succ] at y y0
  clear hk
  go_enter Tryz.func58, Tryz.ntmps58
  go_wp2_with fail
  go_ret
  exact ⟨rfl, rfl⟩
theorem count1_any (q : Nat) (ty : TypeId) (n : Ne) (w : World) (hk : Blk w q ty n.cells) : Calls Tryz.prog 58 #[.pointer (some ⟨q, 0, none⟩), .int .i64 1] w fun e w' => e = .returned (.int .i64 n.p) ∧ w' = w := by
  obtain ⟨h, p, b⟩ := n
  have y := hk.cell 1
  have y0 := hk.cell 0
  simp only [Ne.cells, List.getElem?_toArray, List.getElem?_cons_zero, List.getElem?_cons_succ] at y y0
  clear hk
  go_enter Tryz.func58, Tryz.ntmps58
  go_wp2_with fail
  go_ret
  exact ⟨rfl, rfl⟩
theorem count2_any (q : Nat) (ty : TypeId) (n : Ne) (w : World) (hk : Blk w q ty n.cells) : Calls Tryz.prog 58 #[.pointer (some ⟨q, 0, none⟩), .int .i64 2] w fun e w' => e = .returned (.int .i64 n.b) ∧ w' = w := by
  obtain ⟨h, p, b⟩ := n
  have y := hk.cell 2
  have y0 := hk.cell 0
  simp only [Ne.cells, List.getElem?_toArray, List.getElem?_cons_zero, List.getElem?_cons_succ] at y y0
  clear hk
  go_enter Tryz.func58, Tryz.ntmps58
  go_wp2_with fail
  go_ret
  exact ⟨rfl, rfl⟩
theorem nHidden_any (q : Nat) (ty : TypeId) (n : Ne) (w : World) (hk : Blk w q ty n.cells) : Calls Tryz.prog 38 #[.pointer (some ⟨q, 0, none⟩)] w fun e w' => e = .returned (.int .i64 n.h) ∧ w' = w := by
  have HC := hid (count0_any q ty n w hk)
  clear hk
  go_enter Tryz.func38, Tryz.ntmps38
  go_wp2_with fail
  refine HC.out.mono ?_
  rintro e w4 ⟨rfl, hw4⟩
  obtain rfl : w = w4 := hw4.symm
  go_wp2_with fail
  go_ret
  exact ⟨rfl, rfl⟩
theorem nPre_any (q : Nat) (ty : TypeId) (n : Ne) (w : World) (hk : Blk w q ty n.cells) : Calls Tryz.prog 61 #[.pointer (some ⟨q, 0, none⟩)] w fun e w' => e = .returned (.int .i64 n.p) ∧ w' = w := by
  have HC := hid (count1_any q ty n w hk)
  clear hk
  go_enter Tryz.func61, Tryz.ntmps61
  go_wp2_with fail
  refine HC.out.mono ?_
  rintro e w4 ⟨rfl, hw4⟩
  obtain rfl : w = w4 := hw4.symm
  go_wp2_with fail
  go_ret
  exact ⟨rfl, rfl⟩
theorem nNoBreak_any (q : Nat) (ty : TypeId) (n : Ne) (w : World) (hk : Blk w q ty n.cells) : Calls Tryz.prog 60 #[.pointer (some ⟨q, 0, none⟩)] w fun e w' => e = .returned (.int .i64 n.b) ∧ w' = w := by
  have HC := hid (count2_any q ty n w hk)
  clear hk
  go_enter Tryz.func60, Tryz.ntmps60
  go_wp2_with fail
  refine HC.out.mono ?_
  rintro e w4 ⟨rfl, hw4⟩
  obtain rfl : w = w4 := hw4.symm
  go_wp2_with fail
  go_ret
  exact ⟨rfl, rfl⟩
end Go.Proofs.YtlfbgaknljdanaaGreatDoor

/- out of ExA -/
namespace Go.Proofs.YtlfbgaknljdanaaGreatDoor
open Go.RowKit
open Go.Lib (hid)
set_option linter.unusedVariables false
set_option linter.unusedSimpArgs false
set_option maxRecDepth 100000

theorem nNew_any (w : World) : Calls Tryz.prog 34 #[] w fun e w' => e = .returned (.pointer (some ⟨w.heap.size, 0, none⟩)) ∧ (∃ ty, Blk w' w.heap.size ty (⟨0, 0, 0⟩ : Ne).cells) ∧ Below w.heap.size w w' := by
  have HB1 := hid (fun o => (Below.refl w.heap.size w).alloc (Nat.le_refl _) o)
  have HBK := hid (fun ty cs => Blk.new w ty cs)
  go_enter Tryz.func34, Tryz.ntmps34
  go_wp2_with fail
  go_ret
  exact ⟨rfl, ⟨_, HBK.out _ _⟩, HB1.out _⟩
def exCells (q : Nat) (fo ch : Bool) : Array Value := #[.pointer (some ⟨q, 0, none⟩), .bool fo, .bool ch]
theorem xNew_any (w : World) : Calls Tryz.prog 13 #[] w fun e w' => (∃ g q ty ty2, e = .returned (.pointer (some ⟨g, 0, none⟩)) ∧ g ≠ q ∧ w.heap.size ≤ g ∧ w.heap.size ≤ q ∧ Blk w' q ty (⟨0, 0, 0⟩ : Ne).cells ∧ Blk w' g ty2 (exCells q false false)) ∧ Below w.heap.size w w' := by
  have HN := hid (nNew_any w)
  go_enter Tryz.func13, Tryz.ntmps13
  go_wp2_with fail
  refine HN.out.mono ?_
  rintro e w4 ⟨rfl, ⟨ty, hk4⟩, hb4⟩
  have HB5 := hid (fun o => hb4.alloc hb4.size o)
  have HK5 := hid (fun o => hk4.alloc o)
  have HBK := hid (fun ty cs => Blk.new w4 ty cs)
  have HL := hid (And.intro hk4.lt hb4.size)
  clear hk4 hb4
  go_wp2_with fail
  go_ret
  exact ⟨⟨_, _, _, _, rfl, Nat.ne_of_gt HL.out.1, HL.out.2, Nat.le_refl _, HK5.out _, HBK.out _ _⟩, HB5.out _⟩
end Go.Proofs.YtlfbgaknljdanaaGreatDoor

/- out of ExB -/
namespace Go.Proofs.YtlfbgaknljdanaaGreatDoor
open Go.RowKit
open Go.Lib (hid)
set_option linter.unusedVariables false
set_option linter.unusedSimpArgs false
set_option maxRecDepth 100000

/-- An extractor's cells, its nest. -/
def XS (g q : Nat) (ty : TypeId) (n : Ne) (fo ch : Bool) (w' : World) : Prop :=
  w'.cell? ⟨g, 0, none⟩ = some (.pointer (some ⟨q, 0, none⟩)) ∧ w'.cell? ⟨g, 1, none⟩ = some (.bool fo) ∧ w'.cell? ⟨g, 2, none⟩ = some (.bool ch) ∧ Blk w' q ty n.cells
theorem XS.alloc {g q : Nat} {ty : TypeId} {n : Ne} {fo ch : Bool} {w' : World} (h0 : w'.cell? ⟨g, 0, none⟩ = some (.pointer (some ⟨q, 0, none⟩))) (h1 : w'.cell? ⟨g, 1, none⟩ = some (.bool fo)) (h2 : w'.cell? ⟨g, 2, none⟩ = some (.bool ch)) (h3 : Blk w' q ty n.cells) (o : Obj) : XS g q ty n fo ch (w'.alloc o) := by
  refine ⟨?_, ?_, ?_, h3.alloc o⟩
  · rw [World.cell?_alloc_some _ _ _ (by rw [h0]; rfl)]; exact h0
  · rw [World.cell?_alloc_some _ _ _ (by rw [h1]; rfl)]; exact h1
  · rw [World.cell?_alloc_some _ _ _ (by rw [h2]; rfl)]; exact h2
theorem XS.alloc2 {g q : Nat} {ty : TypeId} {n : Ne} {fo ch : Bool} {w' : World} (h0 : w'.cell? ⟨g, 0, none⟩ = some (.pointer (some ⟨q, 0, none⟩))) (h1 : w'.cell? ⟨g, 1, none⟩ = some (.bool fo)) (h2 : w'.cell? ⟨g, 2, none⟩ = some (.bool ch)) (h3 : Blk w' q ty n.cells) (o o' : Obj) : XS g q ty n fo ch ((w'.alloc o).alloc o').drew := by
  obtain ⟨k0, k1, k2, k3⟩ := XS.alloc h0 h1 h2 h3 o
  obtain ⟨j0, j1, j2, j3⟩ := XS.alloc k0 k1 k2 k3 o'
  exact ⟨j0, j1, j2, j3.drew⟩
theorem item_row (w : World) (g : Nat) (t : TypeId) (a0 a1 a2 a3 a4 a5 a6 x y c0 c1 c2 c3 c4 c5 c6 : Value) (o : Obj) (hg : w.heap.size ≠ g) :
    Blk (((((((((((w.alloc (.cells #[a0, a1, a2, a3, a4, a5, a6] t)).alloc o).setCell ⟨g, 1, none⟩ x).setCell ⟨g, 2, none⟩ y).setCell ⟨w.heap.size, 0, none⟩ c0).setCell ⟨w.heap.size, 1, none⟩ c1).setCell ⟨w.heap.size, 2, none⟩ c2).setCell ⟨w.heap.size, 3, none⟩ c3).setCell ⟨w.heap.size, 4, none⟩ c4).setCell ⟨w.heap.size, 5, none⟩ c5).setCell ⟨w.heap.size, 6, none⟩ c6).drew w.heap.size t #[c0, c1, c2, c3, c4, c5, c6] := by
  have h := ((((((((((Blk.new w t #[a0, a1, a2, a3, a4, a5, a6]).alloc o).far (p := ⟨g, 1, none⟩) hg x).far (p := ⟨g, 2, none⟩) hg y).set_ 0 c0).set_ 1 c1).set_ 2 c2).set_ 3 c3).set_ 4 c4).set_ 5 c5).set_ 6 c6
  simp only [List.setIfInBounds_toArray, List.set_cons_zero, List.set_cons_succ] at h
  exact h.drew
theorem grownBy_drew (w : World) (r : Option Nat) : w.grownBy w.drew r := ⟨rfl, rfl, rfl, Nat.le_refl _, fun _ _ _ => rfl⟩
set_option maxHeartbeats 2000000 in
theorem item_world (w : World) (g q : Nat) (t ty ty2 : TypeId) (fo ch : Bool) (cs : Array Value) (a0 a1 a2 a3 a4 a5 a6 c0 c1 c2 c3 c4 c5 c6 : Value) (o : Obj) (hx : Blk w g ty2 (exCells q fo ch)) (hk : Blk w q ty cs) (hgq : g ≠ q) :
    Blk (((((((((((w.alloc (.cells #[a0, a1, a2, a3, a4, a5, a6] t)).alloc o).setCell ⟨g, 1, none⟩ (.bool false)).setCell ⟨g, 2, none⟩ (.bool false)).setCell ⟨w.heap.size, 0, none⟩ c0).setCell ⟨w.heap.size, 1, none⟩ c1).setCell ⟨w.heap.size, 2, none⟩ c2).setCell ⟨w.heap.size, 3, none⟩ c3).setCell ⟨w.heap.size, 4, none⟩ c4).setCell ⟨w.heap.size, 5, none⟩ c5).setCell ⟨w.heap.size, 6, none⟩ c6).drew g ty2 (exCells q false false) ∧ Blk (((((((((((w.alloc (.cells #[a0, a1, a2, a3, a4, a5, a6] t)).alloc o).setCell ⟨g, 1, none⟩ (.bool false)).setCell ⟨g, 2, none⟩ (.bool false)).setCell ⟨w.heap.size, 0, none⟩ c0).setCell ⟨w.heap.size, 1, none⟩ c1).setCell ⟨w.heap.size, 2, none⟩ c2).setCell ⟨w.heap.size, 3, none⟩ c3).setCell ⟨w.heap.size, 4, none⟩ c4).setCell ⟨w.heap.size, 5, none⟩ c5).setCell ⟨w.heap.size, 6, none⟩ c6).drew q ty cs ∧ w.grownBy (((((((((((w.alloc (.cells #[a0, a1, a2, a3, a4, a5, a6] t)).alloc o).setCell ⟨g, 1, none⟩ (.bool false)).setCell ⟨g, 2, none⟩ (.bool false)).setCell ⟨w.heap.size, 0, none⟩ c0).setCell ⟨w.heap.size, 1, none⟩ c1).setCell ⟨w.heap.size, 2, none⟩ c2).setCell ⟨w.heap.size, 3, none⟩ c3).setCell ⟨w.heap.size, 4, none⟩ c4).setCell ⟨w.heap.size, 5, none⟩ c5).setCell ⟨w.heap.size, 6, none⟩ c6).drew (some g) := by
  have h1 := Nat.ne_of_lt hx.lt
  have h2 := Nat.ne_of_lt hk.lt
  refine ⟨?_, ?_, ?_⟩
  · have h := ((((((((((hx.alloc (.cells #[a0, a1, a2, a3, a4, a5, a6] t)).alloc o).set_ 1 (.bool false)).set_ 2 (.bool false)).far (p := ⟨w.heap.size, 0, none⟩) h1 c0).far (p := ⟨w.heap.size, 1, none⟩) h1 c1).far (p := ⟨w.heap.size, 2, none⟩) h1 c2).far (p := ⟨w.heap.size, 3, none⟩) h1 c3).far (p := ⟨w.heap.size, 4, none⟩) h1 c4).far (p := ⟨w.heap.size, 5, none⟩) h1 c5).far (p := ⟨w.heap.size, 6, none⟩) h1 c6
    simp only [exCells, List.setIfInBounds_toArray, List.set_cons_zero, List.set_cons_succ] at h ⊢
    exact h.drew
  · have h := ((((((((((hk.alloc (.cells #[a0, a1, a2, a3, a4, a5, a6] t)).alloc o).far (p := ⟨g, 1, none⟩) hgq.symm (.bool false)).far (p := ⟨g, 2, none⟩) hgq.symm (.bool false)).far (p := ⟨w.heap.size, 0, none⟩) h2 c0).far (p := ⟨w.heap.size, 1, none⟩) h2 c1).far (p := ⟨w.heap.size, 2, none⟩) h2 c2).far (p := ⟨w.heap.size, 3, none⟩) h2 c3).far (p := ⟨w.heap.size, 4, none⟩) h2 c4).far (p := ⟨w.heap.size, 5, none⟩) h2 c5).far (p := ⟨w.heap.size, 6, none⟩) h2 c6
    exact h.drew
  · have h0 := (((World.grownBy_alloc w (.cells #[a0, a1, a2, a3, a4, a5, a6] t) (some g)).trans (World.grownBy_alloc _ o (some g))).trans (grown_set _ g 1 (.bool false))).trans (grown_set _ g 2 (.bool false))
    have hr : ∀ j, some w.heap.size = some j → w.heap.size ≤ j ∨ some g = some j := fun j e => .inl (by cases e; exact Nat.le_refl _)
    have h := ((((((h0.andThen (grown_set _ w.heap.size 0 c0) hr).andThen (grown_set _ w.heap.size 1 c1) hr).andThen (grown_set _ w.heap.size 2 c2) hr).andThen (grown_set _ w.heap.size 3 c3) hr).andThen (grown_set _ w.heap.size 4 c4) hr).andThen (grown_set _ w.heap.size 5 c5) hr).andThen (grown_set _ w.heap.size 6 c6) hr
    exact h.trans (grownBy_drew _ (some g))
set_option maxHeartbeats 8000000 in
theorem item_any (g q : Nat) (ty ty2 : TypeId) (n : Ne) (fo ch : Bool) (r at_ sz : Int) (w : World) (hk : Blk w q ty n.cells) (hx : Blk w g ty2 (exCells q fo ch)) (hgq : g ≠ q) : Calls Tryz.prog 40 #[.pointer (some ⟨g, 0, none⟩), .int .i32 r, .int .i64 at_, .int .i64 sz] w fun e w' => e = .returned (.agg #[.int .i32 r, .int .i64 at_, .int .i64 sz, .bool fo, .bool ch, .bool (decide (0 < n.b)), .bool (decide (0 < n.p))]) ∧ Blk w' g ty2 (exCells q false false) ∧ Blk w' q ty n.cells ∧ w.grownBy w' (some g) := by
  have y0 := hx.cell 0
  have y1 := hx.cell 1
  have y2 := hx.cell 2
  simp only [exCells, List.getElem?_toArray, List.getElem?_cons_zero, List.getElem?_cons_succ] at y0 y1 y2
  have yf := hx.frozen
  have hglt := hx.lt
  have zf1 : ∀ (o o' : Obj) (i : Nat), World.frozen? ((w.alloc o).alloc o').drew ⟨g, i, none⟩ = false := fun o o' => ((hx.alloc o).alloc o').drew.frozen
  have yg1 : ∀ (o o' : Obj), World.cell? ((w.alloc o).alloc o') ⟨g, 1, none⟩ = some (.bool fo) := fun o o' => by
    have h := ((hx.alloc o).alloc o').cell 1
    simp only [exCells, List.getElem?_toArray, List.getElem?_cons_zero, List.getElem?_cons_succ] at h
    exact h
  have yg2 : ∀ (o o' : Obj), World.cell? ((w.alloc o).alloc o') ⟨g, 2, none⟩ = some (.bool ch) := fun o o' => by
    have h := ((hx.alloc o).alloc o').cell 2
    simp only [exCells, List.getElem?_toArray, List.getElem?_cons_zero, List.getElem?_cons_succ] at h
    exact h
  have zf2 : ∀ (o o' : Obj) (i : Nat), World.frozen? ((w.alloc o).alloc o') ⟨g, i, none⟩ = false := fun o o' => ((hx.alloc o).alloc o').frozen
  have hg1 : ¬ g = w.heap.size := Nat.ne_of_lt hglt
  have hg2 : ¬ w.heap.size = g := fun e => hg1 e.symm
  have hg3 : ¬ g = w.heap.size + 1 := Nat.ne_of_lt (Nat.lt_succ_of_lt hglt)
  have hg4 : ¬ w.heap.size + 1 = g := fun e => hg3 e.symm
  have HNB := hid (fun W (hW : Blk W q ty n.cells) => nNoBreak_any q ty n W hW)
  have HNP := hid (fun W (hW : Blk W q ty n.cells) => nPre_any q ty n W hW)
  have HBK := hid hk
  have HX := hid hx
  clear hk hx
  go_enter Tryz.func40, Tryz.ntmps40
  go_upto_region 1 with fail
  go_region_held3 (fun w' : World => w'.cell? ⟨g, 0, none⟩ = some (.pointer (some ⟨q, 0, none⟩)) ∧ w'.cell? ⟨g, 1, none⟩ = some (.bool fo) ∧ w'.cell? ⟨g, 2, none⟩ = some (.bool ch) ∧ Blk w' q ty n.cells)
    (first
      | exact ⟨y0, y1, y2, HBK.out⟩
      | (go_split_ands; refine XS.alloc ?_ ?_ ?_ ?_ _ <;> assumption)
      | (go_split_ands; refine ⟨?_, ?_, ?_, ?_⟩ <;> assumption)
      | exact XS.alloc2 y0 y1 y2 HBK.out _ _)
    (first
      | (go_at_call 60; go_split_ands; refine (HNB.out _ (by assumption)).mono ?_; rintro e w' ⟨rfl, hw⟩; obtain rfl := hw.symm)
      | (go_at_call 61; go_split_ands; refine (HNP.out _ (by assumption)).mono ?_; rintro e w' ⟨rfl, hw⟩; obtain rfl := hw.symm))
  all_goals (clear hglt; go_wp2_with fail)
  all_goals exact bodyPost_ret (results_cell_row rfl _ _ w.heap.size _ _ _ _ rfl (item_row w g _ _ _ _ _ _ _ _ _ _ _ _ _ _ _ _ _ _ hg2) Tryz.underlying34 rfl (by kernel_rfl)) rfl ⟨rfl, item_world w g q _ ty ty2 fo ch _ _ _ _ _ _ _ _ _ _ _ _ _ _ _ _ HX.out HBK.out hgq⟩
end Go.Proofs.YtlfbgaknljdanaaGreatDoor
