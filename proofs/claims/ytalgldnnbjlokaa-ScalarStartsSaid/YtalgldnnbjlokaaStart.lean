/- Walk of scalar.Start. -/
import Derived.Test.YtalgldnnbjlokaaProg
import Derived.Test.YtalgldnnbjlokaaAll
import Derived.Test.YtalgldnnbjlokaaPcs2
namespace Go.Proofs.Ytalgldnnbjlokaa
open Go.RowKit Go.Shelf
open Go.Lib (hid)
attribute [local go_sem] Oper.semAt_some

/-- What scalar.Start answers. -/
def IsStart (zs : List Int) (i : Int) (n : Int) (ok : Bool) : Prop :=
  (¬ (0 ≤ i ∧ i < zs.length) ∧ n = 0 ∧ ok = false) ∨ (0 ≤ i ∧ i < zs.length ∧ ok = true ∧ ∃ A p B, InPiece zs i.toNat A p B ∧ n = p.at_)

def StartPost (zs : List Int) (i : Int) (w : World) (e : Ending) (w' : World) : Prop := ∃ n ok, e = .returned (.tuple #[.int .i64 n, .bool ok]) ∧ IsStart zs i n ok ∧ Below w.heap.size w w'

set_option maxRecDepth 100000 in
set_option maxHeartbeats 4000000 in
theorem start_out (a : Option Addr) (cap : Nat) (zs : List Int) (i : Int) (w : World) (_hcap : zs.length ≤ 9223372036854775807) (hi : ¬ (0 ≤ i ∧ i < zs.length)) :
    Calls Try.prog 16 #[.slice a zs.length cap, .int .i64 i] w (StartPost zs i w) := by
  have hfin : ∀ W', Below w.heap.size w W' → StartPost zs i w (.returned (.tuple #[.int .i64 0, .bool false])) W' := fun W' h => ⟨_, _, rfl, .inl ⟨hi, rfl, rfl⟩, h⟩
  have HF := hid hfin
  have hor : i < 0 ∨ (0 ≤ i ∧ (zs.length : Int) ≤ i) := by omega
  clear hfin hi
  rcases hor with h | ⟨h0, h⟩
  all_goals
    go_enter Try.func16, Try.ntmps16
    go_wp2
    refine bodyPost_ret (v := .tuple #[.int .i64 0, .bool false]) (by simp [results, Try.results16, go_sem]) rfl (HF.out _ ?_)
    exact ((((Below.refl _ _).alloc (Nat.le_refl _) _).alloc (by simp) _).alloc (by simp; omega) _)

def sTmps (a : Option Addr) (len cap i B Bn Bx : Nat) (x : Value) : Array Value :=
  #[.slice a len cap, .int .i64 i, undef, .pointer (some ⟨B, 0, none⟩), .pointer (some ⟨B + 1, 0, none⟩), .pointer (some ⟨B + 1 + 1, 0, none⟩), .pointer (some ⟨Bx, 0, none⟩), .int .i64 i, .bool false, .bool false, .int .i64 i, .slice a len cap, .int .i64 len, .bool false, .bool false, .slice a len cap, .func (.func 25) #[] #[.pointer (some ⟨Bn, 0, none⟩)], x, undef, undef, undef, undef, undef, undef, undef, undef, undef]

set_option maxRecDepth 100000 in
set_option maxHeartbeats 8000000 in
theorem start_in (a : Option Addr) (cap : Nat) (zs : List Int) (i : Nat) (w : World) (hs : SB w a cap zs) (hi : i < zs.length) (hbig : zs.length ≤ 1000000) :
    Calls Try.prog 16 #[.slice a zs.length cap, .int .i64 i] w (StartPost zs i w) := by
  have hi' : (i : Int) < (zs.length : Int) := by omega
  refine (callsIn_wide (n := 6)).1 ?_
  refine callsIn_of_wp_marks Try.func16 rfl trivial ?_ rfl
  simp only [Try.ntmps16, List.size_toArray, List.length_cons, List.length_nil, Nat.reduceAdd, Nat.reduceSub, Array.replicate_succ, Array.replicate_zero, List.push_toArray, List.append_toArray, List.nil_append, List.cons_append]
  gi_wp2_with fail
  refine ⟨trivial, (callsIn_wide.2 (pieces_any _ a zs.length cap rfl _)).mono ?_⟩
  rintro e w' ⟨rfl, rfl⟩
  gi_wp2_with fail
  have b0 := (((Boxed.new w 3 (.int .i64 i)).alloc (.cells #[.int .i64 0] 3)).alloc (.cells #[.bool false] 4)).alloc (.cells #[.slice a zs.length cap] 22)
  have b1 := ((Boxed.new (w.alloc (.cells #[.int .i64 i] 3)) 3 (.int .i64 0)).alloc (.cells #[.bool false] 4)).alloc (.cells #[.slice a zs.length cap] 22)
  have b2 := (Boxed.new ((w.alloc (.cells #[.int .i64 i] 3)).alloc (.cells #[.int .i64 0] 3)) 4 (.bool false)).alloc (.cells #[.slice a zs.length cap] 22)
  have bN := Boxed.new (((w.alloc (.cells #[.int .i64 i] 3)).alloc (.cells #[.int .i64 0] 3)).alloc (.cells #[.bool false] 4)) 22 (.slice a zs.length cap)
  simp only [World.size_alloc] at b1 b2 bN
  have hB0 : Below w.heap.size w ((((w.alloc (.cells #[.int .i64 i] 3)).alloc (.cells #[.int .i64 0] 3)).alloc (.cells #[.bool false] 4)).alloc (.cells #[.slice a zs.length cap] 22)) :=
    ((((Below.refl _ w).alloc (Nat.le_refl _) _).alloc (by simp) _).alloc (by simp; omega) _).alloc (by simp; omega) _
  have hsz : ((((w.alloc (.cells #[.int .i64 i] 3)).alloc (.cells #[.int .i64 0] 3)).alloc (.cells #[.bool false] 4)).alloc (.cells #[.slice a zs.length cap] 22)).heap.size = w.heap.size + 4 := by simp
  generalize (((w.alloc (.cells #[.int .i64 i] 3)).alloc (.cells #[.int .i64 0] 3)).alloc (.cells #[.bool false] 4)).alloc (.cells #[.slice a zs.length cap] 22) = W0 at *
  refine wpIn_rangeFunc_ownH rfl (by omega) (gf := 25) (lb := #[.pointer (some ⟨w.heap.size + 1 + 1 + 1, 0, none⟩)]) rfl trivial (enters_of Try.func25 (by kernel_rfl) rfl)
    (pieces_stops _ (w.heap.size + 1 + 1 + 1) w.heap.size a cap zs W0 (by omega) (by omega) bN.cell (hs.below hB0 (Nat.le_refl _)) hs.none_lt) (fun h k => h.trans k) (KpB.putObj (by omega) (by omega)) (Below.refl _ _) (fun _ => rfl)
    (fun pre W => ((∀ y ∈ pre, y.1.at_ + y.1.size ≤ i) ∧ (Boxed W w.heap.size 3 (.int .i64 i) ∧ (Boxed W (w.heap.size + 1) 3 (.int .i64 0) ∧ (Boxed W (w.heap.size + 1 + 1) 4 (.bool false) ∧ Boxed W (w.heap.size + 1 + 1 + 1) 22 (.slice a zs.length cap))))) ∧ Below w.heap.size w W)
    (fun c pre W => (c = .ret ∧ ∃ A x, (pre = A ++ [x] ∧ (∀ y ∈ A, y.1.at_ + y.1.size ≤ i) ∧ i < x.1.at_ + x.1.size) ∧ Boxed W (w.heap.size + 1) 3 (.int .i64 x.1.at_) ∧ Boxed W (w.heap.size + 1 + 1) 4 (.bool true)) ∧ Below w.heap.size w W)
    (OwnFrom.and (OwnFrom.and (fun _ _ _ _ hs _ _ => hs) (OwnFrom.and (Own.from (boxed_own _ _ _) _) (OwnFrom.and (Own.from (boxed_own _ _ _) _) (OwnFrom.and (Own.from (boxed_own _ _ _) _) (Own.from (boxed_own _ _ _) _))))) (ownFrom_below (Nat.le_refl _) (by omega)))
    (fun c => OwnFrom.and (fun s X Y row hs hg hr => by
      obtain ⟨h1, A, x, h2, h3, h4⟩ := hs
      exact ⟨h1, A, x, h2, boxed_own _ _ (fun (_ : Unit) => _) () X Y row h3 hg (fun r e => (hr r e).2), boxed_own _ _ (fun (_ : Unit) => _) () X Y row h4 hg (fun r e => (hr r e).2)⟩) (ownFrom_below (Nat.le_refl _) (by omega)))
    ⟨⟨by simp, b0, b1, b2, bN⟩, hB0⟩
    (fun x a' W => ∃ Bx, w.heap.size + 1 + 1 + 1 < Bx ∧ W.heap[Bx]? = some (.cells #[.int .i64 x.1.at_, .int .i64 x.1.size, .int .i32 x.1.r, .bool x.1.whole] 50 (0, 0)) ∧ a' = { tmps := sTmps a zs.length cap i w.heap.size (w.heap.size + 1 + 1 + 1) Bx (encPc x.1), defers := [] })
    (fun x a' _ X Y row hs hg hr => by
      obtain ⟨Bx, h1, h2, h3⟩ := hs
      refine ⟨Bx, h1, ?_, h3⟩
      refine (hg.block Bx (Array.getElem?_eq_some_iff.1 h2).1 (fun e => ?_)).trans h2
      obtain ⟨_, o, ho, hc⟩ := hr Bx e.symm
      rw [h2] at ho
      cases ho
      cases hc)
    ?assign ?body ?done ?stop
  case assign =>
    rintro l pre x W K ⟨⟨hp, hv, hv1, hv2, hbn⟩, hB⟩ hK
    have HP := hid hp
    clear hp
    simp only [encsPc, encPc]
    gi_wp2
    have hsw := hB.size
    have hlt := hbn.lt
    exact hK _ _ ((KeepsOthers.alloc _ _).from _) (KpB.of_below ((Below.refl W.heap.size W).alloc (Nat.le_refl _) _) (by omega) hlt) ⟨⟨HP.out, hv.alloc _, hv1.alloc _, hv2.alloc _, hbn.alloc _⟩, hB.alloc (by omega) _⟩
      ⟨W.heap.size, hlt, World.alloc_heap_new W _, rfl⟩
  case body =>
    rintro l pre x a' W hl ⟨rc, hrc⟩ ⟨⟨hp, hv, hv1, hv2, hbn⟩, hB⟩ ⟨Bx, hBx, bX, rfl⟩ hlt
    have hc := hv.cell
    have hc1 := hv1.cell
    have hc2 := hv2.cell
    have hf1 := hv1.frozen
    have hf2 := hv2.frozen
    have hcx0 : W.cell? ⟨Bx, 0, none⟩ = some (.int .i64 x.1.at_) := by rw [cell_of_row _ _ _ _ _ _ bX]; rfl
    have hcx1 : W.cell? ⟨Bx, 1, none⟩ = some (.int .i64 x.1.size) := by rw [cell_of_row _ _ _ _ _ _ bX]; rfl
    have hmem := pcs_mem x.2
    have hsum : (x.1.at_ : Int) + (x.1.size : Int) ≤ 1000000 := by omega
    have HBN := hid hbn
    have HB := hid hB
    have HV := hid hv
    have HV1 := hid hv1
    have HV2 := hid hv2
    have HP := hid hp
    clear hp hbn hB hv hv1 hv2 bX hrc hlt hs hmem
    unfold sTmps encPc
    by_cases hx : i < x.1.at_ + x.1.size
    · have hx' : (i : Int) < (x.1.at_ : Int) + (x.1.size : Int) := by omega
      gi_wp2
      exact ⟨((KeepsOthers.setCell _ _ _).trans (KeepsOthers.setCell _ _ _)).from _, ⟨rfl, pre, x, ⟨rfl, HP.out, hx⟩, (HV1.out.set _).other (by omega) _, (HV2.out.other (by omega) _).set _⟩, (HB.out.setCell (by simp) _).setCell (by simp; omega) _⟩
    · have hx' : ¬ (i : Int) < (x.1.at_ : Int) + (x.1.size : Int) := by omega
      gi_wp2
      refine ⟨KeepsFrom.refl _ _, KpB.refl _ _ _, ⟨?_, HV.out, HV1.out, HV2.out, HBN.out⟩, HB.out⟩
      have hnew : ∀ y ∈ pre ++ [x], y.1.at_ + y.1.size ≤ i := by
        intro y hy
        rcases List.mem_append.1 hy with h | h
        · exact HP.out y h
        · simp at h; subst h; omega
      first
        | exact hnew
        | exact fun y hy hm => hnew ⟨y, hy⟩ hm
  case done =>
    rintro D ys W hD rfl ⟨⟨hp, _⟩, _⟩ hK
    obtain ⟨p, hp1, hp2⟩ := pcs_cover _ zs 0 i rfl (Nat.zero_le _) hi
    have := hp ⟨p, hp1⟩ (List.mem_attach _ _)
    simp only at this
    omega
  case stop =>
    rintro D c pre W hD ⟨rest, hpre⟩ ⟨⟨rfl, A, x, ⟨rfl, hA, hx⟩, hv1, hv2⟩, hB⟩ hK
    have hst : IsStart zs i x.1.at_ true := by
      refine .inr ⟨by omega, by omega, rfl, A.map (·.1), x.1, rest.map (·.1), ⟨?_, ?_, by simpa using hx⟩, rfl⟩
      · have h := congrArg (List.map (·.1)) hpre
        simp at h
        exact h.symm
      · intro y hy
        obtain ⟨z, hz, rfl⟩ := List.mem_map.1 hy
        simpa using hA z hz
    have hc1 := hv1.cell
    have hc2 := hv2.cell
    have HV1 := hid hv1
    have HV2 := hid hv2
    have HB := hid hB
    have HST := hid hst
    clear hpre hB hv1 hv2 hst hs hA hx
    gi_wp2
    refine ⟨by simp, .inl ⟨_, _, rfl, run_takeDeferred hK, ?_⟩⟩
    have hd1 := cell_kept HV1.out.cell (grownBy_putObj' _ D (.deferred none)) (fun r e => by cases e; exact ⟨_, hK, rfl⟩)
    have hd2 := cell_kept HV2.out.cell (grownBy_putObj' _ D (.deferred none)) (fun r e => by cases e; exact ⟨_, hK, rfl⟩)
    refine ⟨.tuple #[.int .i64 x.1.at_, .bool true], ?_, _, _, rfl, HST.out, HB.out.trans (belowK_b (w := w) (Nat.le_refl _) _ D _ _ (by omega) hK rfl rfl)⟩
    simp [results, Try.results16, go_sem, hd1, hd2]
end Go.Proofs.Ytalgldnnbjlokaa
