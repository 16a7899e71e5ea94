/- Chapter 25: overlay.Breaks. -/
import Derived.Deep.RegionHeld3
import Derived.IntWalk
import Derived.BigQuiet
import Derived.Test.YtfhmeemkmdkhoaaItems
namespace Go.Proofs.Ytfhmeemkmdkhoaa
open Go.RowKit
open Go.Lib (hid)
set_option linter.unusedVariables false

def itD : It := ⟨0, 0, 0, false, false, false, false⟩
/-- What is decided at place k. -/
def bw (m : Int) (xs : List It) (rules : List Bool) (k : Nat) : Int :=
  btw m (xs.getD (k - 1) itD).r (xs.getD (k - 1) itD).n (xs.getD (k - 1) itD).p (xs.getD k itD).f (xs.getD k itD).c (xs.getD k itD).n (xs.getD k itD).p (rules.getD k false)
def arr (m : Int) (xs : List It) (rules : List Bool) (i : Nat) : Array Value :=
  ((List.range rules.length).map (fun k => Value.int .i64 (if 0 < k ∧ k < i then bw m xs rules k else 0))).toArray

theorem arr_get (m : Int) (xs : List It) (rules : List Bool) (i k : Nat) (h : k < rules.length) : (arr m xs rules i)[k]? = some (.int .i64 (if 0 < k ∧ k < i then bw m xs rules k else 0)) := by
  simp [arr, h]
theorem arr_set (m : Int) (xs : List It) (rules : List Bool) (k : Nat) (h : k + 1 < rules.length) : (arr m xs rules (k + 1)).setIfInBounds (k + 1) (.int .i64 (bw m xs rules (k + 1))) = arr m xs rules (k + 1 + 1) := by
  apply Array.ext_getElem?
  intro j
  by_cases hj : j < rules.length
  · by_cases e : k + 1 = j
    · subst e
      rw [Array.getElem?_setIfInBounds_self_of_lt (by simp [arr]; omega), arr_get _ _ _ _ _ hj, if_pos (by omega)]
    · rw [Array.getElem?_setIfInBounds_ne e, arr_get _ _ _ _ _ hj, arr_get _ _ _ _ _ hj]
      by_cases h2 : 0 < j ∧ j < k + 1
      · rw [if_pos h2, if_pos (by omega)]
      · rw [if_neg h2, if_neg (by omega)]
  · rw [Array.getElem?_eq_none (by simp [arr]; omega), Array.getElem?_eq_none (by simp [arr]; omega)]

/-- A row of bools. -/
def BoRow (w : World) (a : Option Addr) (xs : List Bool) : Prop :=
  ∀ i x, xs[i]? = some x → ∃ b off, a = some ⟨b, off, none⟩ ∧ b < w.heap.size ∧ w.cell? ⟨b, off + i, none⟩ = some (.bool x)
theorem BoRow.below {w w' : World} {a : Option Addr} {xs : List Bool} {B : Nat} (h : BoRow w a xs) (hb : Below B w w') (hB : w.heap.size ≤ B) : BoRow w' a xs := by
  intro i x hx
  obtain ⟨b, off, h1, h2, h3⟩ := h i x hx
  have := hb.size
  exact ⟨b, off, h1, by omega, (hb.cell (by show b < B; omega)).trans h3⟩

theorem btw_cell (m : Int) (xs : List It) (rules : List Bool) (k : Nat) (x y : It) (r : Bool) (h0 : xs[k]? = some x) (h1 : xs[k + 1]? = some y) (h2 : rules[k + 1]? = some r) :
    btw m x.r x.n x.p y.f y.c y.n y.p r = bw m xs rules (k + 1) := by
  unfold bw
  simp [List.getD_eq_getElem?_getD, h0, h1, h2]

theorem madeInts (n : Nat) : madeCells (Value.int .i64 0).cells (n * 1) = Array.replicate n (.int .i64 0) := by
  apply Array.ext
  · simp [madeCells]
  · intro i h1 h2
    simp [madeCells, Value.cells, Nat.mod_one]

section
variable {P : Program}
theorem wp_store_one {o : Oper} {a : Act} {w : World} {K : Act → World → Prop} {Q : Exit → Act → World → Prop} (ty : TypeId) (x y : Operand) (ho : o.op = .store ty x y)
    (b i : Nat) (k : IntKind) (z : Int) (hx : a.eval x = .pointer (some ⟨b, i, none⟩)) (hy : a.eval y = .int k z) (old : Value) (hc : w.cell? ⟨b, i, none⟩ = some old) (hf : w.frozen? ⟨b, i, none⟩ = false)
    (inf : TypeInfo) (hi : P.info? ty = some inf) (hsz : inf.size = 1) (h : K (a.put o.dst undef) (w.setCell ⟨b, i, none⟩ (.int k z))) : o.wp P a w K Q := by
  unfold Oper.wp execOp
  simp [ho, hx, hy, Instr.storeAt, Instr.sureAddr, storeVar, sizeOf, typeInfo, hi, hsz, Value.cells, storeCells, Addr.add]
  rw [run_store _ _ _ _ _ rfl]
  simp only [hc, hf, Bool.false_eq_true, if_false, Result.andThen_ok]
  exact h
end

/-- The row, ahead of the store or behind it. -/
def Row2 (m : Int) (xs : List It) (rules : List Bool) (k g : Nat) (w : World) : Prop := Blk w g 3 (arr m xs rules (k + 1)) ∨ Blk w g 3 (arr m xs rules (k + 1 + 1))
theorem Row2.below {m : Int} {xs : List It} {rules : List Bool} {k g B : Nat} {w w' : World} (h : Row2 m xs rules k g w) (hb : Below B w w') (hg : g < B) : Row2 m xs rules k g w' := h.imp (fun h => h.below hb hg) (fun h => h.below hb hg)
theorem Row2.cell {m : Int} {xs : List It} {rules : List Bool} {k g : Nat} {w : World} (h : Row2 m xs rules k g w) (hk : k + 1 < rules.length) : ∃ v, w.cell? ⟨g, k + 1, none⟩ = some v := by
  rcases h with h | h <;> exact ⟨_, (h.cell (k + 1)).trans (arr_get _ _ _ _ _ hk)⟩
theorem Row2.frozen {m : Int} {xs : List It} {rules : List Bool} {k g : Nat} {w : World} (h : Row2 m xs rules k g w) : w.frozen? ⟨g, k + 1, none⟩ = false := by
  rcases h with h | h <;> exact h.frozen _
theorem Row2.set_ {m : Int} {xs : List It} {rules : List Bool} {k g : Nat} {w : World} (h : Row2 m xs rules k g w) (hk : k + 1 < rules.length) : Blk (w.setCell ⟨g, k + 1, none⟩ (.int .i64 (bw m xs rules (k + 1)))) g 3 (arr m xs rules (k + 1 + 1)) := by
  rcases h with h | h
  · rw [← arr_set _ _ _ _ hk]; exact h.set_ _ _
  · have h1 := h.set_ (k + 1) (.int .i64 (bw m xs rules (k + 1)))
    have e : (arr m xs rules (k + 1 + 1)).setIfInBounds (k + 1) (.int .i64 (bw m xs rules (k + 1))) = arr m xs rules (k + 1 + 1) := by
      rw [← arr_set _ _ _ _ hk, Array.setIfInBounds_setIfInBounds]
    rwa [e] at h1

theorem Row2.set2 {m : Int} {xs : List It} {rules : List Bool} {k g : Nat} {w : World} {z : Int} (h : Row2 m xs rules k g w) (hk : k + 1 < rules.length) (hz : z = bw m xs rules (k + 1)) : Row2 m xs rules k g (w.setCell ⟨g, k + 1, none⟩ (.int .i64 z)) := by
  subst hz
  exact .inr (h.set_ hk)

/-- A cell's content, as a name. -/
def cellV (w : World) (g i : Nat) : Value := (w.cell? ⟨g, i, none⟩).getD undef
theorem cellV_of {w : World} {g i : Nat} {v : Value} (h : w.cell? ⟨g, i, none⟩ = some v) : w.cell? ⟨g, i, none⟩ = some (cellV w g i) := by unfold cellV; rw [h]; rfl
theorem cellV_below {w w' : World} {B g i : Nat} (hb : Below B w w') (hg : g < B) (h : w.cell? ⟨g, i, none⟩ = some (cellV w g i)) : w.cell? ⟨g, i, none⟩ = some (cellV w' g i) := by
  have : cellV w' g i = cellV w g i := by unfold cellV; rw [hb.cell (p := ⟨g, i, none⟩) hg]
  rw [this]; exact h
theorem cellV_set (w : World) (g i : Nat) (v u : Value) (h : w.cell? ⟨g, i, none⟩ = some v) : (w.setCell ⟨g, i, none⟩ u).cell? ⟨g, i, none⟩ = some (cellV (w.setCell ⟨g, i, none⟩ u) g i) := by
  have : (w.setCell ⟨g, i, none⟩ u).cell? ⟨g, i, none⟩ = some u := World.cell?_setCell_same' _ _ _ (by rw [h]; rfl)
  exact cellV_of this
theorem frozen_set2 (w : World) (g i j : Nat) (u : Value) : (w.setCell ⟨g, i, none⟩ u).frozen? ⟨g, j, none⟩ = w.frozen? ⟨g, j, none⟩ := World.frozen?_setCell _ _ _ _
theorem size_set2 (w : World) (p : Addr) (u : Value) : (w.setCell p u).heap.size = w.heap.size := by simp [World.setCell]

def HeldS (m : Int) (xs : List It) (rules : List Bool) (k b off rb roff : Nat) (ru : Bool) (r0 a0 s0 : Int) (f0 c0 n0 p0 : Bool) (r1 a1 s1 : Int) (f1 c1 n1 p1 : Bool) (w : World) (w' : World) : Prop := w'.cell? ⟨b, off + k * 7, none⟩ = some (.int .i32 r0) ∧ w'.cell? ⟨b, off + k * 7 + 1, none⟩ = some (.int .i64 a0) ∧ w'.cell? ⟨b, off + k * 7 + 2, none⟩ = some (.int .i64 s0) ∧ w'.cell? ⟨b, off + k * 7 + 3, none⟩ = some (.bool f0) ∧ w'.cell? ⟨b, off + k * 7 + 4, none⟩ = some (.bool c0) ∧ w'.cell? ⟨b, off + k * 7 + 5, none⟩ = some (.bool n0) ∧ w'.cell? ⟨b, off + k * 7 + 6, none⟩ = some (.bool p0) ∧ w'.cell? ⟨b, off + (k + 1) * 7, none⟩ = some (.int .i32 r1) ∧ w'.cell? ⟨b, off + (k + 1) * 7 + 1, none⟩ = some (.int .i64 a1) ∧ w'.cell? ⟨b, off + (k + 1) * 7 + 2, none⟩ = some (.int .i64 s1) ∧ w'.cell? ⟨b, off + (k + 1) * 7 + 3, none⟩ = some (.bool f1) ∧ w'.cell? ⟨b, off + (k + 1) * 7 + 4, none⟩ = some (.bool c1) ∧ w'.cell? ⟨b, off + (k + 1) * 7 + 5, none⟩ = some (.bool n1) ∧ w'.cell? ⟨b, off + (k + 1) * 7 + 6, none⟩ = some (.bool p1) ∧ w'.cell? ⟨rb, roff + (k + 1), none⟩ = some (.bool ru) ∧ w'.cell? ⟨w.heap.size, k + 1, none⟩ = some (cellV w' w.heap.size (k + 1)) ∧ w'.frozen? ⟨w.heap.size, k + 1, none⟩ = false ∧ Row2 m xs rules k w.heap.size w' ∧ Below w.heap.size w w' ∧ w.heap.size < w'.heap.size
theorem HeldS.store {m : Int} {xs : List It} {rules : List Bool} {k b off rb roff : Nat} {ru : Bool} {r0 a0 s0 : Int} {f0 c0 n0 p0 : Bool} {r1 a1 s1 : Int} {f1 c1 n1 p1 : Bool} {w w' : World}
    (h : HeldS m xs rules k b off rb roff ru r0 a0 s0 f0 c0 n0 p0 r1 a1 s1 f1 c1 n1 p1 w w') {z : Int} (hb : b < w.heap.size) (hrb : rb < w.heap.size) (hk : k + 1 < rules.length) (hz : z = bw m xs rules (k + 1)) :
    HeldS m xs rules k b off rb roff ru r0 a0 s0 f0 c0 n0 p0 r1 a1 s1 f1 c1 n1 p1 w (w'.setCell ⟨w.heap.size, k + 1, none⟩ (.int .i64 z)) := by
  have ho : ∀ (c i : Nat), c < w.heap.size → (w'.setCell ⟨w.heap.size, k + 1, none⟩ (.int .i64 z)).cell? ⟨c, i, none⟩ = w'.cell? ⟨c, i, none⟩ := fun c i hc =>
    World.cell?_setCell_other _ _ _ _ (fun e => by have := congrArg Addr.block e; simp at this; omega)
  obtain ⟨e0, e1, e2, e3, e4, e5, e6, e7, e8, e9, e10, e11, e12, e13, e14, e15, e16, e17, e18, e19⟩ := h
  exact ⟨(ho _ _ hb).trans e0, (ho _ _ hb).trans e1, (ho _ _ hb).trans e2, (ho _ _ hb).trans e3, (ho _ _ hb).trans e4, (ho _ _ hb).trans e5, (ho _ _ hb).trans e6, (ho _ _ hb).trans e7, (ho _ _ hb).trans e8, (ho _ _ hb).trans e9, (ho _ _ hb).trans e10, (ho _ _ hb).trans e11, (ho _ _ hb).trans e12, (ho _ _ hb).trans e13, (ho _ _ hrb).trans e14, cellV_set _ _ _ _ _ e15, (World.frozen?_setCell _ _ _ _).trans e16, e17.set2 hk hz, e18.setCell (p := ⟨w.heap.size, k + 1, none⟩) (Nat.le_refl _) _, by rw [size_set2]; exact e19⟩

set_option maxRecDepth 100000 in
set_option maxHeartbeats 8000000 in
theorem breaks_short (m : Int) (a ra : Option Addr) (n cap nr rcap : Nat) (w : World) (hne : nr ≠ n + 1) (h1 : n ≤ 1000000) (h2 : nr ≤ 1000000) :
    Calls Try.prog 19 #[.int .i64 m, .slice a n cap, .slice ra nr rcap] w fun e W' => e = .returned (.slice none 0 0) ∧ W' = w := by
  have hne' : ¬ (nr : Int) = (n : Int) + 1 := by omega
  have hn1 : (n : Int) ≤ 1000000 := by omega
  clear hne h1 h2
  go_enter Try.func19, Try.ntmps19
  go_wp2_with fail
  go_ret
  exact ⟨rfl, rfl⟩

set_option maxRecDepth 100000 in
set_option maxHeartbeats 8000000 in
theorem breaks_any (m : Int) (a ra : Option Addr) (n cap nr rcap : Nat) (xs : List It) (rules : List Bool) (hn : n = xs.length) (hr : nr = rules.length) (hnr : nr = n + 1) (w : World) (hs : ItRow w a xs) (ht : BoRow w ra rules) (hbig : n ≤ 1000000) :
    Calls Try.prog 19 #[.int .i64 m, .slice a n cap, .slice ra nr rcap] w fun e W' => e = .returned (.slice (some ⟨w.heap.size, 0, none⟩) nr nr) ∧ Blk W' w.heap.size 3 (arr m xs rules n) ∧ Below w.heap.size w W' := by
  obtain ⟨i0, hi, hz0, hz1, hz2⟩ := info_parts info_int
  have HS := hid hs
  have HR := hid ht
  have HN := hid hn
  have HNR := hid hr
  have HT := hid between_any
  subst hnr
  clear hs ht hn hr
  go_enter Try.func19, Try.ntmps19
  go_wp2_with (at_make; go_must (refine wpList_make_full _ rfl (.tmp 16) (.tmp 16) 40 rfl w.heap.size 3 i0 (.int .i64 0) 1 Try.underlying40 hi hz0 hz1 .i64 .i64 _ _ (n + 1) rfl rfl (by omega) (by omega) (by rw [hz2]; omega) (by unfold maxLen; omega) (Nat.le_refl _) ?_); intro w1 hown hgrow)
  obtain ⟨_, hown2⟩ := hown
  have hblk : Blk w1 w.heap.size 3 (arr m xs rules 1) := by
    rcases hown2 with ⟨h, _⟩ | ⟨g, c, cur, hv, hg, hh, h1, h2, h3, h4⟩
    · cases h
    · injection hv with hA hB hC
      injection hA with hA
      injection hA with hA
      subst hA hC
      rw [List.take_of_length_le (by simp; omega)] at h4
      have : cur = arr m xs rules 1 := by
        apply Array.toList_inj.1
        rw [h4, madeInts]
        apply List.ext_getElem?
        intro j
        rw [arr, ← HNR.out]
        by_cases hj : j < n + 1
        · simp [hj]
          intro h0 h00
          subst h00
          exact absurd h0 (by omega)
        · simp [hj]
      rw [← this]
      exact hh
  have hb1 : Below w.heap.size w w1 := (Below.refl _ w).grown hgrow (Nat.le_refl _) (fun k e => by cases e)
  have HBLK := hid hblk
  have HB1 := hid hb1
  clear hblk hb1 hown2 hgrow
  go_loopw [8] (fun s8 wr => ∃ (i : Nat), s8 = .int .i64 ((i + 1 : Nat) : Int) ∧ (i < n ∨ i = 0) ∧ Hid (Blk wr w.heap.size 3 (arr m xs rules (i + 1))) ∧ Hid (Below w.heap.size w wr)) (fun s8 _ => n - (intOf s8).toNat)
  case atStart => exact ⟨0, rfl, .inr rfl, HBLK, HB1⟩
  case round =>
    obtain ⟨k, rfl, hk0, HK, HB⟩ := hrel
    clear HBLK HB1
    by_cases hlt : k + 1 < n
    · have hlt' : ((k + 1 : Nat) : Int) < (n : Int) := by omega
      obtain ⟨x, hx⟩ : ∃ x, xs[k]? = some x := ⟨_, List.getElem?_eq_getElem (by have := HN.out; omega)⟩
      obtain ⟨y, hy⟩ : ∃ y, xs[k + 1]? = some y := ⟨_, List.getElem?_eq_getElem (by have := HN.out; omega)⟩
      obtain ⟨ru, hru⟩ : ∃ r, rules[k + 1]? = some r := ⟨_, List.getElem?_eq_getElem (by have := HNR.out; omega)⟩
      have hbw := btw_cell m xs rules k x y ru hx hy hru
      have HBW := hid hbw
      obtain ⟨b, off, rfl, hbl, hc0⟩ := HS.out k x hx
      obtain ⟨b', off', he, _, hc1⟩ := HS.out (k + 1) y hy
      injection he with he
      injection he with he1 he2
      subst he1 he2
      obtain ⟨rb, roff, rfl, hrb, hcr⟩ := HR.out (k + 1) ru hru
      obtain ⟨r0, a0, s0, f0, c0, n0, p0⟩ := x
      obtain ⟨r1, a1, s1, f1, c1, n1, p1⟩ := y
      have hgl := HK.out.lt
      have hc0 := fun j c hc => (HB.out.cell (p := ⟨b, off + (k * 7 + j), none⟩) hbl).trans (hc0 j c hc)
      have hc1 := fun j c hc => (HB.out.cell (p := ⟨b, off + ((k + 1) * 7 + j), none⟩) hbl).trans (hc1 j c hc)
      have hkr' : k + 1 < rules.length := by have := HNR.out; omega
      have hS0 : (fun w' : World => w'.cell? ⟨b, off + k * 7, none⟩ = some (.int .i32 r0) ∧ w'.cell? ⟨b, off + k * 7 + 1, none⟩ = some (.int .i64 a0) ∧ w'.cell? ⟨b, off + k * 7 + 2, none⟩ = some (.int .i64 s0) ∧ w'.cell? ⟨b, off + k * 7 + 3, none⟩ = some (.bool f0) ∧ w'.cell? ⟨b, off + k * 7 + 4, none⟩ = some (.bool c0) ∧ w'.cell? ⟨b, off + k * 7 + 5, none⟩ = some (.bool n0) ∧ w'.cell? ⟨b, off + k * 7 + 6, none⟩ = some (.bool p0) ∧ w'.cell? ⟨b, off + (k + 1) * 7, none⟩ = some (.int .i32 r1) ∧ w'.cell? ⟨b, off + (k + 1) * 7 + 1, none⟩ = some (.int .i64 a1) ∧ w'.cell? ⟨b, off + (k + 1) * 7 + 2, none⟩ = some (.int .i64 s1) ∧ w'.cell? ⟨b, off + (k + 1) * 7 + 3, none⟩ = some (.bool f1) ∧ w'.cell? ⟨b, off + (k + 1) * 7 + 4, none⟩ = some (.bool c1) ∧ w'.cell? ⟨b, off + (k + 1) * 7 + 5, none⟩ = some (.bool n1) ∧ w'.cell? ⟨b, off + (k + 1) * 7 + 6, none⟩ = some (.bool p1) ∧ w'.cell? ⟨rb, roff + (k + 1), none⟩ = some (.bool ru) ∧ w'.cell? ⟨w.heap.size, k + 1, none⟩ = some (cellV w' w.heap.size (k + 1)) ∧ w'.frozen? ⟨w.heap.size, k + 1, none⟩ = false ∧ Row2 m xs rules k w.heap.size w' ∧ Below w.heap.size w w' ∧ w.heap.size < w'.heap.size) wr := by
        refine ⟨by simpa only [Nat.add_zero] using hc0 0 _ rfl, by simpa only [← Nat.add_assoc, Nat.add_zero] using hc0 1 _ rfl, by simpa only [← Nat.add_assoc, Nat.add_zero] using hc0 2 _ rfl, by simpa only [← Nat.add_assoc, Nat.add_zero] using hc0 3 _ rfl, by simpa only [← Nat.add_assoc, Nat.add_zero] using hc0 4 _ rfl, by simpa only [← Nat.add_assoc, Nat.add_zero] using hc0 5 _ rfl, by simpa only [← Nat.add_assoc, Nat.add_zero] using hc0 6 _ rfl, by simpa only [Nat.add_zero] using hc1 0 _ rfl, by simpa only [← Nat.add_assoc, Nat.add_zero] using hc1 1 _ rfl, by simpa only [← Nat.add_assoc, Nat.add_zero] using hc1 2 _ rfl, by simpa only [← Nat.add_assoc, Nat.add_zero] using hc1 3 _ rfl, by simpa only [← Nat.add_assoc, Nat.add_zero] using hc1 4 _ rfl, by simpa only [← Nat.add_assoc, Nat.add_zero] using hc1 5 _ rfl, by simpa only [← Nat.add_assoc, Nat.add_zero] using hc1 6 _ rfl, (HB.out.cell (p := ⟨rb, roff + (k + 1), none⟩) hrb).trans hcr, cellV_of ((HK.out.cell (k + 1)).trans (arr_get _ _ _ _ _ hkr')), HK.out.frozen (k + 1), .inl HK.out, HB.out, hgl⟩
      obtain ⟨e0, e1, e2, e3, e4, e5, e6, e7, e8, e9, e10, e11, e12, e13, e14, e15, e16, e17, e18, e19⟩ := hS0
      have hw1 : IntKind.i64.wrap ((k : Int) + 1 - 1) = (k : Int) := by rw [Int.add_sub_cancel]; exact IntWalk.i64_in _ (by omega)
      have hw2 : IntKind.i64.wrap (k : Int) = (k : Int) := IntWalk.i64_in _ (by omega)
      have hkr : k + 1 < rules.length := by have := HNR.out; omega
      have hid1 : ((k : Int) + 1).toNat = k + 1 := by omega
      have hk1 : (0 : Int) ≤ (k : Int) + 1 := by omega
      have hk2 : (k : Int) + 1 < (n : Int) := by omega
      have hk3 : (k : Int) + 1 < ((n + 1 : Nat) : Int) := by omega
      have hk4 : (k : Int) < (n : Int) := by omega
      have hk5 : (0 : Int) ≤ (k : Int) := by omega
      have eB := e18.drew
      clear hc0 hc1 HB HK hgl hcr hx hy hru hbw
      go_wp2_with fail
      go_region_held3 (fun w' : World => w'.cell? ⟨b, off + k * 7, none⟩ = some (.int .i32 r0) ∧ w'.cell? ⟨b, off + k * 7 + 1, none⟩ = some (.int .i64 a0) ∧ w'.cell? ⟨b, off + k * 7 + 2, none⟩ = some (.int .i64 s0) ∧ w'.cell? ⟨b, off + k * 7 + 3, none⟩ = some (.bool f0) ∧ w'.cell? ⟨b, off + k * 7 + 4, none⟩ = some (.bool c0) ∧ w'.cell? ⟨b, off + k * 7 + 5, none⟩ = some (.bool n0) ∧ w'.cell? ⟨b, off + k * 7 + 6, none⟩ = some (.bool p0) ∧ w'.cell? ⟨b, off + (k + 1) * 7, none⟩ = some (.int .i32 r1) ∧ w'.cell? ⟨b, off + (k + 1) * 7 + 1, none⟩ = some (.int .i64 a1) ∧ w'.cell? ⟨b, off + (k + 1) * 7 + 2, none⟩ = some (.int .i64 s1) ∧ w'.cell? ⟨b, off + (k + 1) * 7 + 3, none⟩ = some (.bool f1) ∧ w'.cell? ⟨b, off + (k + 1) * 7 + 4, none⟩ = some (.bool c1) ∧ w'.cell? ⟨b, off + (k + 1) * 7 + 5, none⟩ = some (.bool n1) ∧ w'.cell? ⟨b, off + (k + 1) * 7 + 6, none⟩ = some (.bool p1) ∧ w'.cell? ⟨rb, roff + (k + 1), none⟩ = some (.bool ru) ∧ w'.cell? ⟨w.heap.size, k + 1, none⟩ = some (cellV w' w.heap.size (k + 1)) ∧ w'.frozen? ⟨w.heap.size, k + 1, none⟩ = false ∧ Row2 m xs rules k w.heap.size w' ∧ Below w.heap.size w w' ∧ w.heap.size < w'.heap.size)
        (first
          | exact ⟨e0, e1, e2, e3, e4, e5, e6, e7, e8, e9, e10, e11, e12, e13, e14, e15, e16, e17, eB, e19⟩
          | (go_split_ands; refine ⟨?_, ?_, ?_, ?_, ?_, ?_, ?_, ?_, ?_, ?_, ?_, ?_, ?_, ?_, ?_, ?_, ?_, ?_, ?_, ?_⟩ <;> first | (rw [hb.cell (by simp; omega)]; assumption) | (rw [hb.cell (by simp; omega)]; exact cellV_below hb (by simp; omega) (by assumption)) | (rw [hb.frozen (by simp; omega)]; assumption) | (refine Row2.below ?_ hb e19; assumption) | exact Below.trans eB (hb.mono (Nat.le_of_lt e19)) | exact Nat.lt_of_lt_of_le e19 hb.size | (rw [World.cell?_setCell_other _ _ _ _ (fun e => by have := congrArg Addr.block e; simp at this; omega)]; assumption) | (refine cellV_set _ _ _ _ _ ?_; assumption) | (rw [frozen_set2]; assumption) | (refine Row2.set2 ?_ hkr HBW.out; assumption) | (refine Below.setCell (p := ⟨w.heap.size, k + 1, none⟩) ?_ (Nat.le_refl _) _; assumption) | (rw [size_set2]; assumption))
          | (go_split_ands; refine HeldS.store (m := m) (xs := xs) (rules := rules) (k := k) (b := b) (off := off) (rb := rb) (roff := roff) (ru := ru) (r0 := r0) (a0 := a0) (s0 := s0) (f0 := f0) (c0 := c0) (n0 := n0) (p0 := p0) (r1 := r1) (a1 := a1) (s1 := s1) (f1 := f1) (c1 := c1) (n1 := n1) (p1 := p1) (w := w) ?_ hbl hrb hkr HBW.out; refine ⟨?_, ?_, ?_, ?_, ?_, ?_, ?_, ?_, ?_, ?_, ?_, ?_, ?_, ?_, ?_, ?_, ?_, ?_, ?_, ?_⟩ <;> assumption))
        (first
          | (go_at_call 9; refine (HT.out _ _ _ _ _ _ _ _ _ _ _ _ _ _ _ _ _).mono ?_; rintro e w' ⟨rfl, hb⟩))
      clear hk1 hk3 hk4 hk5 hid1
      go_wp2_with fail
      go_roundw
      case rel =>
        go_split_ands
        refine ⟨k + 1, by go_num, .inl hlt, ?_, ?_⟩
        · have hr2 : Row2 m xs rules k w.heap.size w' := Row2.below (w := wr.drew) e17 hb e19
          have h9 := hr2.set_ hkr
          rw [← HBW.out] at h9
          exact h9
        · have hb9 : Below w.heap.size w w' := eB.trans (hb.mono (Nat.le_of_lt e19))
          exact Below.setCell (p := ⟨w.heap.size, k + 1, none⟩) hb9 (Nat.le_refl _) _
      case measure => simp [intOf]; omega
    · have hge : ¬ ((k + 1 : Nat) : Int) < (n : Int) := by omega
      have hfin : arr m xs rules (k + 1) = arr m xs rules n := by
        rcases hk0 with h | h
        · rw [show k + 1 = n by omega]
        · subst h
          rcases Nat.eq_zero_or_pos n with h2 | h2
          · subst h2
            unfold arr
            congr 1
            apply List.map_congr_left
            intro j _
            rw [if_neg (by omega), if_neg (by omega)]
          · rw [show 0 + 1 = n by omega]
      rw [hfin] at HK
      clear hfin
      go_wp2_with fail
      go_ret
      exact ⟨rfl, HK.out, HB.out⟩
end Go.Proofs.Ytfhmeemkmdkhoaa
