/- Chapter 01: the walk of scalar.Valid. -/
import Derived.Test.YtpnbkecchfhimaaGreatDoorS1
import Derived.RangeFuncNested
import Derived.RangeFuncBound
import Derived.RangeFuncCalls
import Derived.RangeFuncLeaves
import Derived.RangeFuncBox
import Derived.Shelf.Abstract
import Derived.Shelf.RegionOpen
import Derived.WalkKit
import Derived.OwnWalkIn
import Derived.TacticsInMore
import Derived.LoopNIn
import Derived.LoopIn
import Derived.Maps.AppendAt
import Derived.Test.YtpnbkecchfhimaaGreatDoorProg

/- out of Pieces -/
section
namespace Go.Proofs.YtpnbkecchfhimaaGreatDoor.S1
open Go.RowKit Go.Shelf
open Go.Lib (hid)
attribute [local go_sem] Oper.semAt_some

def encPc (p : Pc) : Value := .agg #[.int .i64 p.at_, .int .i64 p.size, .int .i32 p.r, .bool p.whole]

/-- A piece of these bytes. -/
abbrev PcOf (zs : List Int) := { p : Pc // p ∈ pcs zs }
def encsPc (zs : List Int) (x : PcOf zs) : Array Value := #[encPc x.1]

theorem sub_ext {L : List Pc} : ∀ (xs ys : List { p : Pc // p ∈ L }), xs.map (·.1) = ys.map (·.1) → xs = ys
  | [], [], _ => rfl
  | [], _ :: _, h => by simp at h
  | _ :: _, [], h => by simp at h
  | x :: xs, y :: ys, h => by
    simp only [List.map_cons, List.cons.injEq] at h
    rw [sub_ext xs ys h.2, Subtype.ext h.1]

theorem SB.none_lt {w : World} {a : Option Addr} {cap : Nat} {zs : List Int} (hs : SB w a cap zs) (h0 : zs ≠ []) : ∀ b off, a = some ⟨b, off, none⟩ → b < w.heap.size := by
  intro b off e
  obtain ⟨_, _, _, h⟩ := hs
  rcases h with h | ⟨b', off', e', hlt, _⟩
  · exact absurd h h0
  · rw [e] at e'; cases e'; exact hlt

theorem grown_drewN (w : World) (n : Nat) (row : Option Nat) : w.grownBy (w.drewN n) row := ⟨rfl, rfl, rfl, Nat.le_refl _, fun _ _ _ => rfl⟩

theorem pieces_any (v : Value) (a : Option Addr) (len cap : Nat) (hv : v = .slice a len cap) (w : World) : Calls Tryz.prog 100 #[v] w fun e w' => e = .returned (.func (.func 145) #[] #[.pointer (some ⟨w.heap.size, 0, none⟩)]) ∧ w' = w.alloc (.cells #[v] 22) := by
  subst hv
  go_enter Tryz.func100, Tryz.ntmps100
  go_wp2
  go_ret
  exact ⟨rfl, rfl⟩

/-- What a round keeps: what lay below n₀; and the iterator's own box. -/
def KpB (n₀ Bn : Nat) (A B : World) : Prop := Below n₀ A B ∧ B.heap[Bn]? = A.heap[Bn]?
theorem KpB.refl (n₀ Bn : Nat) (A : World) : KpB n₀ Bn A A := ⟨Below.refl _ _, rfl⟩
theorem KpB.trans {n₀ Bn : Nat} {A B C : World} (h : KpB n₀ Bn A B) (k : KpB n₀ Bn B C) : KpB n₀ Bn A C := ⟨h.1.trans k.1, k.2.trans h.2⟩
theorem KpB.of_below {n₀ Bn m : Nat} {A B : World} (h : Below m A B) (h0 : n₀ ≤ m) (h1 : Bn < m) : KpB n₀ Bn A B := ⟨h.mono h0, h.block Bn h1⟩
theorem KpB.putObj {n₀ Bn : Nat} {w : World} (hn : n₀ ≤ w.heap.size) (hB : Bn < w.heap.size) (W : World) (l : Nat) (o o' : Obj) (hl : w.heap.size ≤ l) (h : W.heap[l]? = some o) (h1 : o.isCells = false) (h2 : o.isWalk = false) : KpB n₀ Bn W (W.putObj l o') :=
  ⟨belowK_b hn W l o o' hl h h1 h2, World.putObj_heap_other (by omega)⟩

set_option maxRecDepth 100000 in
set_option maxHeartbeats 4000000 in
theorem pieces1_in (n : Nat) (l Bn n₀ : Nat) (a : Option Addr) (cap : Nat) (zs : List Int) (J Jx : List (PcOf zs) → World → Prop)
    (hY : ∀ pre x W, J pre W → pre.length < (pcs zs).length → YieldAt Fence.wide (n - 1) Tryz.prog l (encsPc zs x) W fun e W' =>
      (e = .returned (.bool true) ∧ J (pre ++ [x]) W' ∧ KpB n₀ Bn W W') ∨ (e = .returned (.bool false) ∧ Jx (pre ++ [x]) W'))
    (W : World) (hJ : ∀ s A n, J s A → J s (A.drewN n)) (hBn : W.cell? ⟨Bn, 0, none⟩ = some (.slice a zs.length cap)) (hL : SB W a cap zs) (hab : zs ≠ [] → ∀ b off, a = some ⟨b, off, none⟩ → b < n₀) (h0 : J [] W) :
    CallsIn Fence.wide n Tryz.prog 145 #[.func (.yield l) #[] #[], .pointer (some ⟨Bn, 0, none⟩)] W fun e W' => (∃ v, e = .returned v) ∧
      ((∃ ys, ys = (pcs zs).attach ∧ J ys W') ∨ (∃ pre, pre <+: (pcs zs).attach ∧ Jx pre W')) := by
  have hcap := hL.2.1
  have hlc := hL.1
  have HSB : Hid (∀ A, Below n₀ W A → SB A a cap zs) := by
    intro A hA
    obtain ⟨g1, g2, g3, g4⟩ := hL
    refine ⟨g1, g2, g3, ?_⟩
    by_cases hz : zs = []
    · exact .inl hz
    · rcases g4 with h | ⟨b, off, ha, hlt, hr⟩
      · exact .inl h
      · exact .inr ⟨b, off, ha, by have := hA.size; omega, hr.below hA (hab hz b off ha)⟩
  have HJ := hid hJ
  have HY := hid hY
  have H0 := hid h0
  clear hJ hY h0 hL hab
  refine callsIn_of_wp Tryz.func145 rfl trivial ?_ rfl
  simp only [Tryz.ntmps145, List.size_toArray, List.length_cons, List.length_nil, Nat.reduceAdd, Nat.reduceSub, Array.replicate_succ, Array.replicate_zero, List.push_toArray, List.append_toArray, List.nil_append, List.cons_append]
  gi_wp2
  gi_loopw [3] (fun s3 wr => ∃ (i : Nat) (pre : List (PcOf zs)), s3 = .int .i64 i ∧ i ≤ zs.length ∧ Hid (pre.map (·.1) ++ pcsFrom zs i = pcs zs) ∧ Hid (J pre wr) ∧ KpB n₀ Bn W wr)
    (fun s3 _ => zs.length - (intOf s3).toNat)
  case atStart =>
    exact ⟨0, [], rfl, Nat.zero_le _, rfl, H0.out, KpB.refl _ _ _⟩
  case round =>
    obtain ⟨i, pre, rfl, hi, HP, HJ1, hB⟩ := hrel
    have hc : wr.cell? ⟨Bn, 0, none⟩ = some (.slice a zs.length cap) := (World.cell?_of_block (w := W) (a := ⟨Bn, 0, none⟩) hB.2).trans hBn
    have HB := hid hB
    clear hB
    by_cases hlt : i < zs.length
    · have hlt' : (i : Int) < (zs.length : Int) := by omega
      have hrd := read_any a cap zs i wr (HSB.out wr HB.out.1)
      have hra : readAt zs i = readF (zs.drop i) := by rw [readAt, if_pos (by omega), Int.toNat_natCast]
      rw [hra] at hrd
      have hst := pcsFrom_step hlt
      have hsz := readF_drop_size hlt
      generalize readF (zs.drop i) = q at *
      obtain ⟨r, size, whole⟩ := q
      simp only at hrd hst hsz
      obtain ⟨hs1, hs2⟩ := hsz
      have HRD := hid hrd
      have hmem : (⟨i, size, r, whole⟩ : Pc) ∈ pcs zs := by rw [← HP.out, hst]; simp
      have hplen : pre.length < (pcs zs).length := by
        rw [← HP.out, hst]; simp
      have HP2 : Hid ((pre ++ [(⟨⟨i, size, r, whole⟩, hmem⟩ : PcOf zs)]).map (·.1) ++ pcsFrom zs (i + size) = pcs zs) := by
        refine Eq.trans ?_ HP.out
        rw [hst]; simp
      clear hrd hst hra HP
      gi_wp2_with fail
      refine ⟨trivial, (fun h => by cases h), (callsIn_wide.2 HRD.out).mono ?_⟩
      rintro e w' ⟨rfl, q, rfl⟩
      obtain ⟨fn, tmps, assign, body, hy, hR⟩ := HY.out pre ⟨⟨i, size, r, whole⟩, hmem⟩ (wr.drewN q) (HJ.out _ _ _ HJ1.out) hplen
      simp only [encsPc, encPc] at hy
      gi_wp2
      refine ⟨(fun h => by cases h), hR.mono ?_⟩
      rintro e W3 (⟨rfl, hJ3, hk3⟩ | ⟨rfl, hJx3⟩)
      · have HJ3 := hid hJ3
        have HK3 := hid hk3
        clear hJ3 hk3
        gi_wp2
        go_roundw
        case rel => exact ⟨i + size, _, by go_num, by omega, HP2, HJ3, (HB.out.trans ⟨below_drewN _ _ _, rfl⟩).trans HK3.out⟩
        case measure => simp [intOf]; omega
      · have HJX3 := hid hJx3
        clear hJx3
        gi_wp2
        refine bodyPost_ret (results_none rfl _ _ _) rfl ?_
        refine ⟨⟨_, rfl⟩, .inr ⟨_, ?_, HJX3.out⟩⟩
        have h := HP2.out
        refine ⟨(pcs zs).attach.drop (pre.length + 1), sub_ext _ _ ?_⟩
        have e1 : ((pcs zs).attach.drop (pre.length + 1)).map (·.1) = (pcs zs).drop (pre.length + 1) := by rw [List.map_drop]; simp
        rw [List.map_append, e1]
        have e2 : (pcs zs).attach.map (·.1) = pcs zs := by simp
        rw [e2]
        conv => rhs; rw [← h]
        congr 1
        rw [← h]
        rw [List.drop_append_of_le_length (by simp)]
        simp
    · obtain rfl : i = zs.length := by omega
      have hfin : pre = (pcs zs).attach := by
        have h := HP.out
        rw [pcsFrom_end (Nat.le_refl _), List.append_nil] at h
        exact sub_ext _ _ (by rw [h]; simp)
      have HF := hid hfin
      clear hfin
      gi_wp2
      go_end0
      exact ⟨⟨_, rfl⟩, .inl ⟨pre, HF.out, HJ1.out⟩⟩

theorem pieces_stops (n Bn n₀ : Nat) (a : Option Addr) (cap : Nat) (zs : List Int) (w : World) (hB : Bn < w.heap.size) (_hn : n₀ ≤ w.heap.size) (hc : w.cell? ⟨Bn, 0, none⟩ = some (.slice a zs.length cap)) (hL : SB w a cap zs) (hab : zs ≠ [] → ∀ b off, a = some ⟨b, off, none⟩ → b < n₀) :
    SeqStopsK Fence.wide n Tryz.prog 145 #[.pointer (some ⟨Bn, 0, none⟩)] (encsPc zs) (KpB n₀ Bn) (fun ys => ys = (pcs zs).attach) (fun pre => pre <+: (pcs zs).attach) (pcs zs).length w := fun l J Jx W hW hJ _ hY h0 =>
  pieces1_in n l Bn n₀ a cap zs J Jx hY W (fun s A m h => hJ s A (A.drewN m) none h (grown_drewN _ _ _) (fun r e => by cases e)) ((hW.cell (p := ⟨Bn, 0, none⟩) hB).trans hc) (hL.below hW (Nat.le_refl _)) hab h0
end Go.Proofs.YtpnbkecchfhimaaGreatDoor.S1
end

/- out of Valid -/
section
namespace Go.Proofs.YtpnbkecchfhimaaGreatDoor.S1
open Go.RowKit Go.Shelf
open Go.Lib (hid)
attribute [local go_sem] Oper.semAt_some

def validF (zs : List Int) : Bool := (pcs zs).all (·.whole)

def vTmps (a : Option Addr) (len cap BO Bn Bx : Nat) (x : Value) : Array Value :=
  #[.slice a len cap, undef, .pointer (some ⟨BO, 0, none⟩), .pointer (some ⟨Bx, 0, none⟩), .slice a len cap, .func (.func 145) #[] #[.pointer (some ⟨Bn, 0, none⟩)], x, undef, undef, undef]

set_option maxRecDepth 100000 in
set_option maxHeartbeats 4000000 in
theorem valid_any (a : Option Addr) (cap : Nat) (zs : List Int) (w : World) (hs : SB w a cap zs) :
    Calls Tryz.prog 75 #[.slice a zs.length cap] w fun e W' => e = .returned (.bool (validF zs)) ∧ Below w.heap.size w W' := by
  refine (callsIn_wide (n := 6)).1 ?_
  refine callsIn_of_wp_marks Tryz.func75 rfl trivial ?_ rfl
  simp only [Tryz.ntmps75, List.size_toArray, List.length_cons, List.length_nil, Nat.reduceAdd, Nat.reduceSub, Array.replicate_succ, Array.replicate_zero, List.push_toArray, List.append_toArray, List.nil_append, List.cons_append]
  gi_wp2_with fail
  refine ⟨trivial, (callsIn_wide.2 (pieces_any _ a zs.length cap rfl _)).mono ?_⟩
  rintro e w' ⟨rfl, rfl⟩
  gi_wp2_with fail
  have bO := (Boxed.new w 4 (.bool false)).alloc (.cells #[.slice a zs.length cap] 22)
  have bN := Boxed.new (w.alloc (.cells #[.bool false] 4)) 22 (.slice a zs.length cap)
  rw [World.size_alloc] at bN
  have hB0 : Below w.heap.size w ((w.alloc (.cells #[.bool false] 4)).alloc (.cells #[.slice a zs.length cap] 22)) := ((Below.refl _ w).alloc (Nat.le_refl _) _).alloc (by simp) _
  have hsz : ((w.alloc (.cells #[.bool false] 4)).alloc (.cells #[.slice a zs.length cap] 22)).heap.size = w.heap.size + 2 := by simp
  generalize (w.alloc (.cells #[.bool false] 4)).alloc (.cells #[.slice a zs.length cap] 22) = W0 at *
  refine wpIn_rangeFunc_ownH rfl (by omega) (gf := 145) (lb := #[.pointer (some ⟨w.heap.size + 1, 0, none⟩)]) rfl trivial (enters_of Tryz.func145 (by kernel_rfl) rfl)
    (pieces_stops _ (w.heap.size + 1) w.heap.size a cap zs W0 (by omega) (by omega) bN.cell (hs.below hB0 (Nat.le_refl _)) hs.none_lt) (fun h k => h.trans k) (KpB.putObj (by omega) (by omega)) (Below.refl _ _) (fun _ => rfl)
    (fun pre W => ((∀ y ∈ pre, y.1.whole = true) ∧ (Boxed W w.heap.size 4 (.bool false) ∧ Boxed W (w.heap.size + 1) 22 (.slice a zs.length cap))) ∧ Below w.heap.size w W)
    (fun c pre W => ((c = .ret ∧ ∃ y ∈ pre, y.1.whole = false) ∧ Boxed W w.heap.size 4 (.bool false)) ∧ Below w.heap.size w W)
    (OwnFrom.and (OwnFrom.and (fun _ _ _ _ hs _ _ => hs) (OwnFrom.and (Own.from (boxed_own _ _ _) _) (Own.from (boxed_own _ _ _) _))) (ownFrom_below (Nat.le_refl _) (by omega)))
    (fun c => OwnFrom.and (OwnFrom.and (fun _ _ _ _ hs _ _ => hs) (Own.from (boxed_own _ _ _) _)) (ownFrom_below (Nat.le_refl _) (by omega)))
    ⟨⟨by simp, bO, bN⟩, hB0⟩
    (fun x a' W => ∃ Bx, w.heap.size + 1 < Bx ∧ W.heap[Bx]? = some (.cells #[.int .i64 x.1.at_, .int .i64 x.1.size, .int .i32 x.1.r, .bool x.1.whole] 169 (0, 0)) ∧ a' = { tmps := vTmps a zs.length cap w.heap.size (w.heap.size + 1) Bx (encPc x.1), defers := [] })
    (fun x a' _ X Y row hs hg hr => by
      obtain ⟨Bx, h1, h2, h3⟩ := hs
      refine ⟨Bx, h1, ?_, h3⟩
      refine (hg.block Bx (Array.getElem?_eq_some_iff.1 h2).1 (fun e => ?_)).trans h2
      obtain ⟨_, o, ho, hc⟩ := hr Bx e.symm
      rw [h2] at ho
      cases ho
      cases hc)
    ?assign ?body ?done ?stop
  case assign =>
    rintro l pre x W K ⟨⟨hp, hv, hbn⟩, hB⟩ hK
    have HP := hid hp
    clear hp
    simp only [encsPc, encPc]
    gi_wp2
    have hsw := hB.size
    have hlt := hbn.lt
    exact hK _ _ ((KeepsOthers.alloc _ _).from _) (KpB.of_below ((Below.refl W.heap.size W).alloc (Nat.le_refl _) _) (by omega) hlt) ⟨⟨HP.out, hv.alloc _, hbn.alloc _⟩, hB.alloc (by omega) _⟩
      ⟨W.heap.size, hlt, World.alloc_heap_new W _, rfl⟩
  case body =>
    rintro l pre x a' W hl ⟨rc, hrc⟩ ⟨⟨hp, hv, hbn⟩, hB⟩ ⟨Bx, hBx, bX, rfl⟩ hlt
    have hc := hv.cell
    have hf := hv.frozen
    have hcx : W.cell? ⟨Bx, 3, none⟩ = some (.bool x.1.whole) := by rw [cell_of_row _ _ _ _ _ _ bX]; rfl
    have HBN := hid hbn
    have HB := hid hB
    have HV := hid hv
    have HP := hid hp
    clear hp hbn hB hv bX hrc hlt hs
    unfold vTmps encPc
    cases hx : x.1.whole <;> rw [hx] at hcx
    · have HX := hid hx
      clear hx
      gi_wp2
      exact ⟨(KeepsOthers.setCell _ _ _).from _, ⟨⟨rfl, x, by simp, HX.out⟩, HV.out.set _⟩, HB.out.setCell (Nat.le_refl _) _⟩
    · have HX := hid hx
      clear hx
      gi_wp2
      refine ⟨KeepsFrom.refl _ _, KpB.refl _ _ _, ⟨fun y hy => ?_, HV.out, HBN.out⟩, HB.out⟩
      rcases List.mem_append.1 hy with h | h
      · exact HP.out y h
      · simp at h; subst h; exact HX.out
  case done =>
    rintro D ys W hD rfl ⟨⟨hp, hv, hbn⟩, hB⟩ hK
    have hc := hv.cell
    have hf := hv.frozen
    have HV := hid hv
    have HB := hid hB
    have hval : validF zs = true := by
      unfold validF
      rw [List.all_eq_true]
      intro p hpm
      exact hp ⟨p, hpm⟩ (List.mem_attach _ _)
    have HVAL := hid hval
    clear hp hbn hB hv hval hs
    gi_wp2
    have hK' := (KeepsOthers.setCell W ⟨w.heap.size, 0, none⟩ (.bool true)).same D _ hK rfl
    refine ⟨by simp, .inl ⟨_, _, rfl, run_takeDeferred hK', ?_⟩⟩
    have hc5 := cell_kept ((HV.out.set (.bool true)).cell) (grownBy_putObj' _ D (.deferred none)) (fun r e => by cases e; exact ⟨_, hK', rfl⟩)
    refine ⟨.bool true, ?_, by rw [HVAL.out], (HB.out.setCell (Nat.le_refl _) _).trans (belowK_b (w := w) (Nat.le_refl _) _ D _ _ (by omega) hK' rfl rfl)⟩
    simp [results, Tryz.results75, go_sem, hc5]
  case stop =>
    rintro D c pre W hD hpre ⟨⟨⟨rfl, y, hy, hw⟩, hv⟩, hB⟩ hK
    have hc := hv.cell
    have HV := hid hv
    have HB := hid hB
    have hval : validF zs = false := by
      unfold validF
      rw [List.all_eq_false]
      exact ⟨y.1, y.2, by simp [hw]⟩
    have HVAL := hid hval
    clear hpre hB hv hval hs hw hy
    gi_wp2
    refine ⟨by simp, .inl ⟨_, _, rfl, run_takeDeferred hK, ?_⟩⟩
    have hc5 := cell_kept HV.out.cell (grownBy_putObj' _ D (.deferred none)) (fun r e => by cases e; exact ⟨_, hK, rfl⟩)
    refine ⟨.bool false, ?_, by rw [HVAL.out], HB.out.trans (belowK_b (w := w) (Nat.le_refl _) _ D _ _ (by omega) hK rfl rfl)⟩
    simp [results, Tryz.results75, go_sem, hc5]
end Go.Proofs.YtpnbkecchfhimaaGreatDoor.S1
end
