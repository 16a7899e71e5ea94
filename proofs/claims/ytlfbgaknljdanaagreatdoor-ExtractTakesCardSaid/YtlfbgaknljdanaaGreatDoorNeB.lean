/- Chapter 22: a nest takes tags: walks. -/
import Derived.Test.YtlfbgaknljdanaaGreatDoorNeA
import Derived.BigQuiet
namespace Go.Proofs.YtlfbgaknljdanaaGreatDoor
open Go.RowKit
open Go.Lib (hid)
set_option linter.unusedVariables false
set_option maxRecDepth 100000

theorem an2 : ∀ a b c d e f g : Bool, bits .and .i64 (v7 a b c d e f g) 2 = if b = true then 2 else 0 := by decide +kernel
theorem an4 : ∀ a b c d e f g : Bool, bits .and .i64 (v7 a b c d e f g) 4 = if c = true then 4 else 0 := by decide +kernel
theorem an8 : ∀ a b c d e f g : Bool, bits .and .i64 (v7 a b c d e f g) 8 = if d = true then 8 else 0 := by decide +kernel
theorem an16 : ∀ a b c d e f g : Bool, bits .and .i64 (v7 a b c d e f g) 16 = if e = true then 16 else 0 := by decide +kernel
theorem an1 : ∀ a b c d e f g : Bool, (bits .and .i64 (v7 a b c d e f g) 1 != 0) = a := by decide +kernel
theorem an33 : ∀ a b c d e f g : Bool, (bits .and .i64 (v7 a b c d e f g) 33 != 0) = (a || f) := by decide +kernel
theorem an64 : ∀ a b c d e f g : Bool, (bits .and .i64 (v7 a b c d e f g) 64 != 0) = g := by decide +kernel
/-- A nest's counts. -/
structure Ne where
  h : Int
  p : Int
  b : Int
def Ne.ok (n : Ne) : Prop := (0 ≤ n.h ∧ n.h ≤ 255) ∧ (0 ≤ n.p ∧ n.p ≤ 255) ∧ (0 ≤ n.b ∧ n.b ≤ 255)
def Ne.cells (n : Ne) : Array Value := #[.int .i64 n.h, .int .i64 n.p, .int .i64 n.b]
def Ne.add (n : Ne) (c d e : Bool) (by_ : Int) : Ne := ⟨trn n.h c by_, trn n.p (decide (n.h = 0) && d) by_, trn n.b (decide (n.h = 0) && e) by_⟩
theorem Ne.add_ok {n : Ne} (h : n.ok) (c d e : Bool) (by_ : Int) : (n.add c d e by_).ok := ⟨trn_bd h.1.1 h.1.2 _ _, trn_bd h.2.1.1 h.2.1.2 _ _, trn_bd h.2.2.1 h.2.2.2 _ _⟩
/-- What an element is: block, void, hidden, pre, nobr, br, wbr. -/
def neStart (n : Ne) (x : ByteArray) (sg : Bool) : Ne × Bool × Bool :=
  (if (!sg && !inN 1 x) = true then n.add (inN 2 x) (inN 3 x) (inN 4 x) 1 else n, decide (n.h = 0) && (inN 0 x || inN 5 x), decide (n.h = 0) && inN 6 x)
def neEnd (n : Ne) (x : ByteArray) : Ne × Bool :=
  if inN 1 x = true then (n, false) else (n.add (inN 2 x) (inN 3 x) (inN 4 x) (-1), decide (n.h = 0) && inN 0 x)
theorem neStart_ok {n : Ne} (h : n.ok) (x : ByteArray) (sg : Bool) : (neStart n x sg).1.ok := by
  unfold neStart
  split
  · exact Ne.add_ok h _ _ _ _
  · exact h
theorem neEnd_ok {n : Ne} (h : n.ok) (x : ByteArray) : (neEnd n x).1.ok := by
  unfold neEnd
  split
  · exact h
  · exact Ne.add_ok h _ _ _ _
set_option maxHeartbeats 4000000 in
theorem nstart_any (q : Nat) (ty : TypeId) (n : Ne) (x : ByteArray) (tc : Array Value) (sg : Bool) (w : World) (hk : Blk w q ty n.cells) (hn : n.ok) (k f t r : Int) (nm : ByteArray) (htc : tc = #[.int .i64 k, .int .i64 f, .int .i64 t, .string nm, .int .i32 r, .bool sg]) :
    Calls Tryz.prog 55 #[.pointer (some ⟨q, 0, none⟩), .agg tc, .int .i64 (elV x)] w fun e w' => e = .returned (.tuple #[.bool (neStart n x sg).2.1, .bool (neStart n x sg).2.2]) ∧
      Blk w' q ty (neStart n x sg).1.cells ∧ w.grownBy w' (some q) := by
  subst htc
  obtain ⟨h, p, b⟩ := n
  obtain ⟨hh, hp, hb⟩ := hn
  simp only at hh hp hb
  have e2 := an2 (inN 0 x) (inN 1 x) (inN 2 x) (inN 3 x) (inN 4 x) (inN 5 x) (inN 6 x)
  have e4 := an4 (inN 0 x) (inN 1 x) (inN 2 x) (inN 3 x) (inN 4 x) (inN 5 x) (inN 6 x)
  have e8 := an8 (inN 0 x) (inN 1 x) (inN 2 x) (inN 3 x) (inN 4 x) (inN 5 x) (inN 6 x)
  have e16 := an16 (inN 0 x) (inN 1 x) (inN 2 x) (inN 3 x) (inN 4 x) (inN 5 x) (inN 6 x)
  have e33 := an33 (inN 0 x) (inN 1 x) (inN 2 x) (inN 3 x) (inN 4 x) (inN 5 x) (inN 6 x)
  have e64 := an64 (inN 0 x) (inN 1 x) (inN 2 x) (inN 3 x) (inN 4 x) (inN 5 x) (inN 6 x)
  have hEV : elV x = v7 (inN 0 x) (inN 1 x) (inN 2 x) (inN 3 x) (inN 4 x) (inN 5 x) (inN 6 x) := rfl
  rw [← hEV] at e2 e4 e8 e16 e33 e64
  simp only [neStart, Ne.add, Ne.cells]
  have hbx := (Below.refl w.heap.size w).alloc (Nat.le_refl _) (.cells #[.int .i64 k, .int .i64 f, .int .i64 t, .string nm, .int .i32 r, .bool sg] 30)
  have hk1 := hk.alloc (.cells #[.int .i64 k, .int .i64 f, .int .i64 t, .string nm, .int .i32 r, .bool sg] 30)
  have hx := (Blk.new w 30 #[.int .i64 k, .int .i64 f, .int .i64 t, .string nm, .int .i32 r, .bool sg]).cell 5
  have y0 := hk1.cell 0
  simp only [Ne.cells, List.getElem?_toArray, List.getElem?_cons_zero, List.getElem?_cons_succ] at hx y0
  have HADD := hid (fun W (hW : Blk W q ty #[.int .i64 h, .int .i64 p, .int .i64 b]) => add_any q ty h p b (elV x) 1 (inN 2 x) (inN 3 x) (inN 4 x) W hW hh hp hb (.inl rfl) e4 e8 e16)
  have HK1 := hid hk1
  have HG1 := hid (grown_of_below hbx (some q))
  generalize elV x = is at *
  generalize inN 0 x = fa at *
  generalize inN 1 x = fb at *
  generalize inN 2 x = fc at *
  generalize inN 3 x = fd at *
  generalize inN 4 x = fe at *
  generalize inN 5 x = ff at *
  generalize inN 6 x = fg at *
  clear hEV e4 e8 e16 hk hk1 hbx
  by_cases h0 : h = 0
  · subst h0
    cases sg
    · cases fb
      · have e2' : bits .and .i64 is 2 = 0 := e2
        clear e2
        go_enter Tryz.func55, Tryz.ntmps55
        go_wp2_with fail
        refine (HADD.out _ HK1.out).mono ?_
        rintro e w2 ⟨⟨v, rfl⟩, hk2, hg2⟩
        have HK2 := hid hk2
        have HG2 := hid (HG1.out.trans hg2)
        clear hk2 hg2 hx y0
        go_wp2_with fail
        go_ret2
        exact ⟨rfl, HK2.out, HG2.out⟩
      · have e2' : bits .and .i64 is 2 = 2 := e2
        clear e2
        go_enter Tryz.func55, Tryz.ntmps55
        go_wp2_with fail
        go_ret2
        exact ⟨rfl, HK1.out, HG1.out⟩
    · have e2' : True := trivial
      clear e2
      go_enter Tryz.func55, Tryz.ntmps55
      go_wp2_with fail
      go_ret2
      exact ⟨rfl, HK1.out, HG1.out⟩
  · have HD := hid (show decide (h = 0) = false from decide_eq_false h0)
    have h0b : (h == 0) = false := by simpa using h0
    cases sg
    · cases fb
      · have e2' : bits .and .i64 is 2 = 0 := e2
        clear e2
        go_enter Tryz.func55, Tryz.ntmps55
        go_wp2_with fail
        refine (HADD.out _ HK1.out).mono ?_
        rintro e w2 ⟨⟨v, rfl⟩, hk2, hg2⟩
        have HK2 := hid hk2
        have HG2 := hid (HG1.out.trans hg2)
        clear hk2 hg2 hx y0
        go_wp2_with fail
        go_ret2
        exact ⟨by first | rfl | (rw [HD.out]; rfl), by first | exact HK2.out | (have h5 := HK2.out; rw [HD.out] at h5; exact h5), HG2.out⟩
      · have e2' : bits .and .i64 is 2 = 2 := e2
        clear e2
        go_enter Tryz.func55, Tryz.ntmps55
        go_wp2_with fail
        go_ret2
        exact ⟨by first | rfl | (rw [HD.out]; rfl), HK1.out, HG1.out⟩
    · have e2' : True := trivial
      clear e2
      go_enter Tryz.func55, Tryz.ntmps55
      go_wp2_with fail
      go_ret2
      exact ⟨by first | rfl | (rw [HD.out]; rfl), HK1.out, HG1.out⟩
set_option maxHeartbeats 4000000 in
theorem nend_any (q : Nat) (ty : TypeId) (n : Ne) (x : ByteArray) (w : World) (hk : Blk w q ty n.cells) (hn : n.ok) :
    Calls Tryz.prog 57 #[.pointer (some ⟨q, 0, none⟩), .int .i64 (elV x)] w fun e w' => e = .returned (.bool (neEnd n x).2) ∧
      Blk w' q ty (neEnd n x).1.cells ∧ w.grownBy w' (some q) := by
  obtain ⟨h, p, b⟩ := n
  obtain ⟨hh, hp, hb⟩ := hn
  simp only at hh hp hb
  have e2 := an2 (inN 0 x) (inN 1 x) (inN 2 x) (inN 3 x) (inN 4 x) (inN 5 x) (inN 6 x)
  have e4 := an4 (inN 0 x) (inN 1 x) (inN 2 x) (inN 3 x) (inN 4 x) (inN 5 x) (inN 6 x)
  have e8 := an8 (inN 0 x) (inN 1 x) (inN 2 x) (inN 3 x) (inN 4 x) (inN 5 x) (inN 6 x)
  have e16 := an16 (inN 0 x) (inN 1 x) (inN 2 x) (inN 3 x) (inN 4 x) (inN 5 x) (inN 6 x)
  have e1 := an1 (inN 0 x) (inN 1 x) (inN 2 x) (inN 3 x) (inN 4 x) (inN 5 x) (inN 6 x)
  have hEV : elV x = v7 (inN 0 x) (inN 1 x) (inN 2 x) (inN 3 x) (inN 4 x) (inN 5 x) (inN 6 x) := rfl
  rw [← hEV] at e2 e4 e8 e16 e1
  simp only [neEnd, Ne.add, Ne.cells]
  have y0 := hk.cell 0
  simp only [Ne.cells, List.getElem?_toArray, List.getElem?_cons_zero] at y0
  have HADD := hid (fun W (hW : Blk W q ty #[.int .i64 h, .int .i64 p, .int .i64 b]) => add_any q ty h p b (elV x) (-1) (inN 2 x) (inN 3 x) (inN 4 x) W hW hh hp hb (.inr rfl) e4 e8 e16)
  have HK1 := hid hk
  generalize elV x = is at *
  generalize inN 0 x = fa at *
  generalize inN 1 x = fb at *
  generalize inN 2 x = fc at *
  generalize inN 3 x = fd at *
  generalize inN 4 x = fe at *
  clear hEV e4 e8 e16 hk
  cases fb
  · have e2' : bits .and .i64 is 2 = 0 := e2
    clear e2
    by_cases h0 : h = 0
    · subst h0
      go_enter Tryz.func57, Tryz.ntmps57
      go_wp2_with fail
      refine (HADD.out _ HK1.out).mono ?_
      rintro e w2 ⟨⟨v, rfl⟩, hk2, hg2⟩
      have HK2 := hid hk2
      have HG2 := hid hg2
      clear hk2 hg2 y0
      go_wp2_with fail
      go_ret
      exact ⟨rfl, HK2.out, HG2.out⟩
    · have HD := hid (show decide (h = 0) = false from decide_eq_false h0)
      have h0b : (h == 0) = false := by simpa using h0
      go_enter Tryz.func57, Tryz.ntmps57
      go_wp2_with fail
      refine (HADD.out _ HK1.out).mono ?_
      rintro e w2 ⟨⟨v, rfl⟩, hk2, hg2⟩
      have HK2 := hid hk2
      have HG2 := hid hg2
      clear hk2 hg2 y0
      go_wp2_with fail
      go_ret
      exact ⟨by first | rfl | (rw [HD.out]; rfl), by first | exact HK2.out | (have h5 := HK2.out; rw [HD.out] at h5; exact h5), HG2.out⟩
  · have e2' : bits .and .i64 is 2 = 2 := e2
    clear e2
    go_enter Tryz.func57, Tryz.ntmps57
    go_wp2_with fail
    go_ret
    exact ⟨rfl, HK1.out, ⟨rfl, rfl, rfl, Nat.le_refl _, fun _ _ _ => rfl⟩⟩
end Go.Proofs.YtlfbgaknljdanaaGreatDoor
