/- strconv.ParseInt of any text, in sixteens, of 32 bits: walks. -/
import Derived.Test.YtbkjanlkklmleaaGreatDoorPiA
import Derived.Test.YtbkjanlkklmleaaGreatDoorPiSh
import Derived.Shelf.Strconv.ToError
import Derived.Shelf.Strconv.ToErrorRange
import Derived.Lib.IfaceEq
import Derived.Lib.IfaceNeq
namespace Go.Proofs.YtbkjanlkklmleaaGreatDoor
open Go.RowKit
open Go.Shelf
open Go.Lib (hid)
set_option linter.unusedVariables false

def PiPost (s : ByteArray) (w : World) (e : Ending) (w' : World) : Prop :=
  ∃ (n : Int) (er : Value), e = .returned (.tuple #[.int .i64 n, er]) ∧ ErE er ∧ -2147483648 ≤ n ∧ n ≤ 2147483647 ∧ (goodX s → er = .nilIface ∧ n = dxN (intsOf s)) ∧ Below w.heap.size w w'
theorem piPost_bad {s : ByteArray} {w w' : World} {n : Int} {er : Value} (h : ¬ goodX s) (h0 : -2147483648 ≤ n) (h1 : n ≤ 2147483647) (he : ErE er) (hb : Below w.heap.size w w') : PiPost s w (.returned (.tuple #[.int .i64 n, er])) w' := ⟨_, _, rfl, he, h0, h1, fun g => absurd g h, hb⟩
theorem extX_size (s : ByteArray) (i : Nat) : (s.extract i s.size).size ≤ s.size := by rw [ByteArray.size_extract]; omega

theorem neqE (a b : Int) (W : World) : (binOp .neq 62 (.iface 104 (.int .i64 a)) (.iface 104 (.int .i64 b))).run Tryz.prog W = .ok (.bool (a != b)) W := Lib.run_neq_iface_int W a b Tryz.underlying62 (by kernel_rfl) Tryz.underlying104

set_option maxRecDepth 100000 in
set_option maxHeartbeats 8000000 in
theorem parseIntX_any (s : ByteArray) (hs : s.size ≤ 100000) (w : World) : Calls Tryz.prog 49 #[.string s, .int .i64 16, .int .i64 32] w (PiPost s w) := by
  have hq2 : ∀ W, (binOp .neq 62 (.iface 104 (.int .i64 2)) (.iface 104 (.int .i64 1))).run Tryz.prog W = .ok (.bool true) W := fun W => neqE 2 1 W
  have hq1 : ∀ W, (binOp .neq 62 (.iface 104 (.int .i64 1)) (.iface 104 (.int .i64 1))).run Tryz.prog W = .ok (.bool false) W := fun W => neqE 1 1 W
  by_cases he : s = ByteArray.empty
  · subst he
    have h0 : ¬ goodX ByteArray.empty := fun h => absurd h.1 (by decide)
    have HP := hid (piPost_bad (n := 0) h0 (by decide) (by decide) (.inr (.inr rfl)) (Below.refl w.heap.size w))
    have hne : (ByteArray.empty.toList == []) = true := by rw [Lib.toList_data]; rfl
    have hne2 : ByteArray.empty.toList = [] := by rw [Lib.toList_data]; rfl
    clear h0
    go_enter Tryz.func49, Tryz.ntmps49
    go_wp2_with fail
    go_ret2
    exact HP.out
  have h0 : 0 < s.size := by
    rcases Nat.eq_zero_or_pos s.size with h | h
    · exact absurd (ext_byt (y := ByteArray.empty) (by rw [h]; rfl) (fun i hi => by omega)) he
    · exact h
  have hne2 : ¬ s.toList = [] := fun e => he (str_toList_inj.1 (by rw [e, Lib.toList_data]; rfl))
  have hne3 : s.toList.isEmpty = false := by simpa using hne2
  have hne4 : (s.toList == []) = false := by simpa using hne2
  have hg0 : ((s[0]'h0).toNat : Int) = byt s 0 := by rw [getB]; have := (byt_nonneg s 0).1; omega
  have hs0 : (0 : Int) < (s.size : Int) := by omega
  have hsl : ∀ W, (Instr.slice 9 (.string s) (some (.int .i64 1)) none none).run Tryz.prog W = .ok (.string (s.extract 1 s.size)) W := fun W => by
    rw [run_slice_string_from_if W 9 s .i64 _ Tryz.underlying9, if_pos ⟨by omega, by omega⟩]
    rfl
  have HSG := hid (fun (h : goodX s) => h.2.2 0 h0)
  have HRG := hid (fun (h : goodX s) => goodX_rng h)
  have hst : (s.extract 1 s.size).size ≤ 100000 := Nat.le_trans (extX_size s 1) hs
  generalize s.extract 1 s.size = t at *
  have HPT := hid (fun W => parseUintX_any t hst W)
  have HPS := hid (fun W => parseUintX_any s hs W)
  generalize byt s 0 = c at *
  have hmin : wrap64 (-wrap64 2147483648) = -2147483648 := by
    unfold wrap64
    omega
  by_cases h43 : c = 43
  · subst h43
    have HNG := hid (show ¬ goodX s from fun g => absurd (HSG.out g) (by decide))
    go_enter Tryz.func49, Tryz.ntmps49
    go_wp2_with fail
    refine (HPT.out _).mono ?_
    rintro e w2 ⟨un, er, rfl, he, u0, u1, _, hb⟩
    have HB := hid hb
    clear hb
    rcases he with rfl | rfl | rfl
    · by_cases hc : 2147483648 ≤ un
      · go_wp2_with fail
        go_ret2
        exact piPost_bad HNG.out (by decide) (by decide) (.inr (.inl rfl)) HB.out
      · have hw : IntKind.i64.wrap un = un := IntWalk.i64_in _ (by omega)
        go_wp2_with fail
        go_ret2
        exact piPost_bad HNG.out (by omega) (by omega) (.inl rfl) HB.out
    · by_cases hc : 2147483648 ≤ un
      · go_wp2_with fail
        go_ret2
        exact piPost_bad HNG.out (by decide) (by decide) (.inr (.inl rfl)) HB.out
      · have hw : IntKind.i64.wrap un = un := IntWalk.i64_in _ (by omega)
        go_wp2_with fail
        go_ret2
        exact piPost_bad HNG.out (by omega) (by omega) (.inl rfl) HB.out
    · go_wp2_with fail
      go_ret2
      exact piPost_bad HNG.out (by decide) (by decide) (.inr (.inr rfl)) HB.out
  by_cases h45 : c = 45
  · subst h45
    have HNG := hid (show ¬ goodX s from fun g => absurd (HSG.out g) (by decide))
    clear h43
    have hn43 : ((45 : Int) == 43) = false := by decide
    go_enter Tryz.func49, Tryz.ntmps49
    go_wp2_with fail
    refine (HPT.out _).mono ?_
    rintro e w2 ⟨un, er, rfl, he, u0, u1, _, hb⟩
    have HB := hid hb
    clear hb
    rcases he with rfl | rfl | rfl
    · by_cases hc : 2147483648 < un
      · go_wp2_with fail
        go_ret2
        exact piPost_bad HNG.out (by decide) (by decide) (.inr (.inl rfl)) HB.out
      · have hw : IntKind.i64.wrap un = un := IntWalk.i64_in _ (by omega)
        have hw2 : IntKind.i64.wrap (-un) = -un := IntWalk.i64_in _ (by omega)
        go_wp2_with fail
        go_ret2
        exact piPost_bad HNG.out (by omega) (by omega) (.inl rfl) HB.out
    · by_cases hc : 2147483648 < un
      · go_wp2_with fail
        go_ret2
        exact piPost_bad HNG.out (by decide) (by decide) (.inr (.inl rfl)) HB.out
      · have hw : IntKind.i64.wrap un = un := IntWalk.i64_in _ (by omega)
        have hw2 : IntKind.i64.wrap (-un) = -un := IntWalk.i64_in _ (by omega)
        go_wp2_with fail
        go_ret2
        exact piPost_bad HNG.out (by omega) (by omega) (.inl rfl) HB.out
    · go_wp2_with fail
      go_ret2
      exact piPost_bad HNG.out (by decide) (by decide) (.inr (.inr rfl)) HB.out
  have hc1 : (c == 43) = false := by simpa using h43
  have hc2 : (c == 45) = false := by simpa using h45
  clear hsl h43 h45
  go_enter Tryz.func49, Tryz.ntmps49
  go_wp2_with fail
  refine (HPS.out _).mono ?_
  rintro e w2 ⟨un, er, rfl, he, u0, u1, hgd, hb⟩
  have HB := hid hb
  have HGD := hid hgd
  clear hb hgd
  rcases he with rfl | rfl | rfl
  · by_cases hc : 2147483648 ≤ un
    · have HNG := hid (show ¬ goodX s from fun g => by have := HGD.out g; have := HRG.out g; omega)
      go_wp2_with fail
      go_ret2
      exact piPost_bad HNG.out (by decide) (by decide) (.inr (.inl rfl)) HB.out
    · have hw : IntKind.i64.wrap un = un := IntWalk.i64_in _ (by omega)
      go_wp2_with fail
      go_ret2
      exact ⟨un, .nilIface, rfl, .inl rfl, by omega, by omega, fun g => ⟨rfl, (HGD.out g).2⟩, HB.out⟩
  · have HNG := hid (show ¬ goodX s from fun g => by have := (HGD.out g).1; cases this)
    by_cases hc : 2147483648 ≤ un
    · go_wp2_with fail
      go_ret2
      exact piPost_bad HNG.out (by decide) (by decide) (.inr (.inl rfl)) HB.out
    · have hw : IntKind.i64.wrap un = un := IntWalk.i64_in _ (by omega)
      go_wp2_with fail
      go_ret2
      exact piPost_bad HNG.out (by omega) (by omega) (.inl rfl) HB.out
  · have HNG := hid (show ¬ goodX s from fun g => by have := (HGD.out g).1; cases this)
    go_wp2_with fail
    go_ret2
    exact piPost_bad HNG.out (by decide) (by decide) (.inr (.inr rfl)) HB.out

/-- The variables of the reader's errors hold errors. -/
def ErrV (w : World) : Prop := (∃ te pe, w.cell? ⟨Tryz.laysPi245_ren.g 15, 0, none⟩ = some (.iface te pe)) ∧ ∃ te pe, w.cell? ⟨Tryz.laysPi245_ren.g 16, 0, none⟩ = some (.iface te pe)
theorem ErrV.lt {w : World} (h : ErrV w) : Tryz.laysPi245_ren.g 15 < w.heap.size ∧ Tryz.laysPi245_ren.g 16 < w.heap.size := by
  obtain ⟨⟨_, _, h1⟩, _, _, h2⟩ := h
  exact ⟨World.block_lt_of_cell? _ _ h1, World.block_lt_of_cell? _ _ h2⟩
theorem ErrV.below {w w' : World} {B : Nat} (h : ErrV w) (hb : Below B w w') (hB : w.heap.size ≤ B) : ErrV w' := by
  obtain ⟨l1, l2⟩ := h.lt
  obtain ⟨⟨t1, p1, h1⟩, t2, p2, h2⟩ := h
  exact ⟨⟨t1, p1, (hb.cell (p := ⟨_, 0, none⟩) (Nat.lt_of_lt_of_le l1 hB)).trans h1⟩, t2, p2, (hb.cell (p := ⟨_, 0, none⟩) (Nat.lt_of_lt_of_le l2 hB)).trans h2⟩
def SpPost (s : ByteArray) (w : World) (e : Ending) (w' : World) : Prop :=
  ∃ (n : Int) (er : Value), e = .returned (.tuple #[.int .i64 n, er]) ∧ (er = .nilIface ∨ ∃ t p, er = .iface t p) ∧ -2147483648 ≤ n ∧ n ≤ 2147483647 ∧ (goodX s → er = .nilIface ∧ n = dxN (intsOf s)) ∧ Below w.heap.size w w'
set_option maxHeartbeats 4000000 in
theorem sparseIntX_any (s : ByteArray) (hs : s.size ≤ 100000) (w : World) (hv : ErrV w) : Calls Tryz.prog 34 #[.string s, .int .i64 16, .int .i64 32] w (SpPost s w) := by
  have HV := hid hv
  have HPI := hid (parseIntX_any s hs w)
  clear hv
  go_enter Tryz.func34, Tryz.ntmps34
  go_wp2_with fail
  refine HPI.out.mono ?_
  rintro e w2 ⟨n, er, rfl, he, h0, h1, hgd, hb⟩
  have HB := hid hb
  have HGD := hid hgd
  have HV2 := hid (HV.out.below hb (Nat.le_refl _))
  clear hb hgd
  rcases he with rfl | rfl | rfl
  · go_wp2_with fail
    go_ret2
    exact ⟨n, .nilIface, rfl, .inl rfl, h0, h1, fun g => ⟨rfl, (HGD.out g).2⟩, HB.out⟩
  · have HNG := hid (show ¬ goodX s from fun g => by have := (HGD.out g).1; cases this)
    obtain ⟨_, te, pe, hc⟩ := HV2.out
    have HC := hid hc
    clear hc
    go_wp2_with fail
    refine (Any.strconv_toError_range (P := Tryz.prog) Tryz.laysPi245 _ s 16 32 (.iface te pe) w2 (by omega) HC.out (.inr ⟨te, pe, rfl⟩)).mono ?_
    rintro e w3 ⟨N, rfl, _, _, hb3⟩
    have HB3 := hid (HB.out.trans (hb3.mono HB.out.size))
    clear hb3
    go_wp2_with fail
    go_ret2
    exact ⟨n, _, rfl, .inr ⟨_, _, rfl⟩, h0, h1, fun g => absurd g HNG.out, HB3.out⟩
  · have HNG := hid (show ¬ goodX s from fun g => by have := (HGD.out g).1; cases this)
    obtain ⟨⟨te, pe, hc⟩, _⟩ := HV2.out
    have HC := hid hc
    clear hc
    go_wp2_with fail
    refine (Any.strconv_toError_syntax (P := Tryz.prog) Tryz.laysPi245 _ s 16 32 (.iface te pe) w2 (by omega) HC.out (.inr ⟨te, pe, rfl⟩)).mono ?_
    rintro e w3 ⟨N, rfl, _, _, hb3⟩
    have HB3 := hid (HB.out.trans (hb3.mono HB.out.size))
    clear hb3
    go_wp2_with fail
    go_ret2
    exact ⟨n, _, rfl, .inr ⟨_, _, rfl⟩, h0, h1, fun g => absurd g HNG.out, HB3.out⟩
end Go.Proofs.YtbkjanlkklmleaaGreatDoor
