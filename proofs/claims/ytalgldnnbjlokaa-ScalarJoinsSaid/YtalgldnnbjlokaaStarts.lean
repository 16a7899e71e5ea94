/- Walks of scalar.Starts, Count. -/
import Derived.Test.YtalgldnnbjlokaaProg
import Derived.Test.YtalgldnnbjlokaaAll
namespace Go.Proofs.Ytalgldnnbjlokaa
open Go.RowKit Go.Shelf
open Go.Lib (hid)
attribute [local go_sem] Oper.semAt_some

theorem info_i64 : (Try.prog.info? 3).map (fun i => (i.zero, i.size, i.bytes)) = some (some (.int .i64 0), 1, 8) := by kernel_rfl

/-- The scalars of pieces. -/
def atsOf {zs : List Int} (pre : List (PcOf zs)) : List Int := pre.map (fun x => ((x.1.at_ : Nat) : Int))

theorem atsOf_snoc {zs : List Int} (pre : List (PcOf zs)) (x : PcOf zs) : atsOf (pre ++ [x]) = atsOf pre ++ [((x.1.at_ : Nat) : Int)] := by simp [atsOf]
theorem atsOf_all (zs : List Int) : atsOf (pcs zs).attach = (pcs zs).map (fun p => ((p.at_ : Nat) : Int)) := by
  unfold atsOf
  rw [show (fun x : PcOf zs => ((x.1.at_ : Nat) : Int)) = (fun p : Pc => ((p.at_ : Nat) : Int)) ∘ (fun x : PcOf zs => x.1) from rfl, ← List.map_map]
  simp
theorem atsOf_len {zs : List Int} (pre : List (PcOf zs)) : (atsOf pre).length = pre.length := by simp [atsOf]

/-- A list of scalars that the call has made. -/
def Made64 (n₀ : Nat) (W : World) (v : Value) (l : List Int) : Prop := W.ownsRow n₀ 3 1 v l.length (l.map (Value.int .i64)) ∧ (v = .slice none 0 0 ↔ l = [])

def pcTmpsS (a : Option Addr) (len cap BO Bn Bx : Nat) (x : Value) : Array Value :=
  #[.slice a len cap, undef, .slice none 0 0, .pointer (some ⟨BO, 0, none⟩), .pointer (some ⟨Bx, 0, none⟩), .slice a len cap, .func (.func 25) #[] #[.pointer (some ⟨Bn, 0, none⟩)], x, undef, undef, undef, undef, undef, undef]

set_option maxRecDepth 100000 in
set_option maxHeartbeats 4000000 in
theorem starts_any (a : Option Addr) (cap : Nat) (zs : List Int) (w : World) (hs : SB w a cap zs) (hbig : zs.length ≤ 1000000) :
    Calls Try.prog 11 #[.slice a zs.length cap] w fun e W' => ∃ v, e = .returned v ∧ Made64 w.heap.size W' v ((pcs zs).map (fun p => ((p.at_ : Nat) : Int))) ∧ Below w.heap.size w W' := by
  obtain ⟨i0, hi, hz0, hz1, hz2⟩ := info_parts info_i64
  have hlen := pcs_length zs
  refine (callsIn_wide (n := 6)).1 ?_
  refine callsIn_of_wp_marks Try.func11 rfl trivial ?_ rfl
  simp only [Try.ntmps11, List.size_toArray, List.length_cons, List.length_nil, Nat.reduceAdd, Nat.reduceSub, Array.replicate_succ, Array.replicate_zero, List.push_toArray, List.append_toArray, List.nil_append, List.cons_append]
  gi_wp2_with fail
  refine ⟨trivial, (callsIn_wide.2 (pieces_any _ a zs.length cap rfl _)).mono ?_⟩
  rintro e w' ⟨rfl, rfl⟩
  gi_wp2_with fail
  have bO := (Boxed.new w 32 (.slice none 0 0)).alloc (.cells #[.slice a zs.length cap] 22)
  have bN := Boxed.new (w.alloc (.cells #[.slice none 0 0] 32)) 22 (.slice a zs.length cap)
  rw [World.size_alloc] at bN
  have hB0 : Below w.heap.size w ((w.alloc (.cells #[.slice none 0 0] 32)).alloc (.cells #[.slice a zs.length cap] 22)) := ((Below.refl _ w).alloc (Nat.le_refl _) _).alloc (by simp) _
  have hsz : ((w.alloc (.cells #[.slice none 0 0] 32)).alloc (.cells #[.slice a zs.length cap] 22)).heap.size = w.heap.size + 2 := by simp
  generalize (w.alloc (.cells #[.slice none 0 0] 32)).alloc (.cells #[.slice a zs.length cap] 22) = W0 at *
  refine wpIn_rangeFunc_ownH rfl (by omega) (gf := 25) (lb := #[.pointer (some ⟨w.heap.size + 1, 0, none⟩)]) rfl trivial (enters_of Try.func25 (by kernel_rfl) rfl)
    (pieces_stops _ (w.heap.size + 1) w.heap.size a cap zs W0 (by omega) (by omega) bN.cell (hs.below hB0 (Nat.le_refl _)) hs.none_lt) (fun h k => h.trans k) (KpB.putObj (by omega) (by omega)) (Below.refl _ _) (fun _ => rfl)
    (fun pre W => ((∃ v, Boxed W w.heap.size 32 v ∧ W.ownsRow w.heap.size 3 1 v (atsOf pre).length ((atsOf pre).map (Value.int .i64)) ∧ (v = .slice none 0 0 ↔ atsOf pre = [])) ∧ Boxed W (w.heap.size + 1) 22 (.slice a zs.length cap)) ∧ Below w.heap.size w W)
    (fun _ _ _ => False)
    (OwnFrom.and (OwnFrom.and (Own.from (holdsRow_own w.heap.size w.heap.size 32 3 1 (fun pre => (atsOf pre).length) (fun pre => (atsOf pre).map (Value.int .i64)) (fun pre v => v = .slice none 0 0 ↔ atsOf pre = [])) _) (Own.from (boxed_own _ _ _) _)) (ownFrom_below (Nat.le_refl _) (by omega)))
    (fun _ _ _ _ _ hs _ _ => hs)
    ⟨⟨⟨_, bO, World.ownsRow_nil _ _ _ _, by simp [atsOf]⟩, bN⟩, hB0⟩
    (fun x a' W => ∃ Bx, w.heap.size + 1 < Bx ∧ W.heap[Bx]? = some (.cells #[.int .i64 x.1.at_, .int .i64 x.1.size, .int .i32 x.1.r, .bool x.1.whole] 50 (0, 0)) ∧ a' = { tmps := pcTmpsS a zs.length cap w.heap.size (w.heap.size + 1) Bx (encPc x.1), defers := [] })
    (fun x a' _ X Y row hs hg hr => by
      obtain ⟨Bx, h1, h2, h3⟩ := hs
      refine ⟨Bx, h1, ?_, h3⟩
      refine (hg.block Bx (Array.getElem?_eq_some_iff.1 h2).1 (fun e => ?_)).trans h2
      obtain ⟨_, o, ho, hc⟩ := hr Bx e.symm
      rw [h2] at ho
      cases ho
      cases hc)
    ?assign ?body ?done ?stop
  case assign =>
    rintro l pre x W K ⟨⟨⟨v, hv, hrow, hnil⟩, hbn⟩, hB⟩ hK
    simp only [encsPc, encPc]
    gi_wp2
    have hsw := hB.size
    have hlt := hbn.lt
    exact hK _ _ ((KeepsOthers.alloc _ _).from _) (KpB.of_below ((Below.refl W.heap.size W).alloc (Nat.le_refl _) _) (by omega) hlt) ⟨⟨⟨v, hv.alloc _, hrow.alloc _, hnil⟩, hbn.alloc _⟩, hB.alloc (by omega) _⟩
      ⟨W.heap.size, hlt, World.alloc_heap_new W _, rfl⟩
  case body =>
    rintro l pre x a' W hl ⟨rc, hrc⟩ ⟨⟨⟨v, hv, hrow, hnil⟩, hbn⟩, hB⟩ ⟨Bx, hBx, bX, rfl⟩ hlt
    have hc := hv.cell
    have hcx : W.cell? ⟨Bx, 0, none⟩ = some (.int .i64 x.1.at_) := by rw [cell_of_row _ _ _ _ _ _ bX]; rfl
    have hrl := atsOf_len pre
    have hsw := hB.size
    have hbl := hbn.lt
    have HBN := hid hbn
    have HB := hid hB
    have HNIL := hid hnil
    have hk1 : (atsOf pre).length + 1 ≤ 1000000 := by omega
    have hne : 32 ≠ 3 := by decide
    have HV := hid hv
    have HROW := hid hrow
    generalize hX : ((x.1.at_ : Nat) : Int) = r at *
    have HX := hid hX
    clear hX hrl hlt hlen hbig hB hbn hnil hv hrow bX
    unfold pcTmpsS encPc
    gi_wp2_with (gi_at_builtin; refine wpListIn_append_own _ rfl _ _ 32 rfl w.heap.size 3 i0 (.int .i64 0) 1 8 Try.underlying32 hi hz0 hz1 hz2 rfl (by decide) _ _ _ rfl (HROW.out.alloc _) ⟨W.heap.size, 0, none⟩ 1 1 [.int .i64 r] rfl rfl (cell_one_new _ _ _) (by simp [Value.oneCell']) (by unfold maxLen; omega) (by omega) (by simp; omega) ?_; intro v' w1 hown' hgrow _; obtain ⟨g', cap', rfl⟩ := ownsRow_succ hown'; obtain ⟨hv1, hv2, hr2, hk2, hb2⟩ := HV.out.appended hne HROW.out (by omega) (Nat.le_refl _) hown' hgrow; have hc1 := hv1.cell; have hf1 := hv1.frozen)
    have hbn2 : Boxed (w1.setCell ⟨w.heap.size, 0, none⟩ (.slice (some ⟨g', 0, none⟩) ((atsOf pre).length + 1) cap')) (w.heap.size + 1) 22 (.slice a zs.length cap) :=
      ((HBN.out.alloc _).kept hgrow (HBN.out.not_row (by decide) HROW.out)).other (by omega) _
    have e1 : atsOf (pre ++ [x]) = atsOf pre ++ [r] := by rw [atsOf_snoc, HX.out]
    exact ⟨hk2.from _, ⟨hb2, Eq.trans hbn2 (Eq.symm HBN.out)⟩, ⟨⟨_, hv2, by rw [e1]; simpa using hr2, by rw [e1]; simp⟩, hbn2⟩, HB.out.trans hb2⟩
  case done =>
    rintro D ys W hD rfl ⟨⟨⟨v, hv, hrow, hnil⟩, hbn⟩, hB⟩ hK
    have hc := hv.cell
    rw [atsOf_all] at hrow hnil
    have HROW := hid hrow
    have HNIL := hid hnil
    have HB := hid hB
    clear hrow hnil hB hbn hv
    gi_wp2
    refine ⟨by simp, .inl ⟨_, _, rfl, run_takeDeferred hK, ?_⟩⟩
    exact ⟨_, results_tmp rfl _ _ _, v, rfl, ⟨ownsRow_putObj HROW.out _ hK rfl, HNIL.out⟩, HB.out.trans (belowK_b (w := w) (Nat.le_refl _) W D _ _ (by omega) hK rfl rfl)⟩
  case stop =>
    rintro D c pre W _ _ h _
    exact h.elim

theorem count_any (a : Option Addr) (cap : Nat) (zs : List Int) (w : World) (hs : SB w a cap zs) (hbig : zs.length ≤ 1000000) :
    Calls Try.prog 13 #[.slice a zs.length cap] w fun e W' => e = .returned (.int .i64 ((pcs zs).length : Nat)) ∧ Below w.heap.size w W' := by
  have h1 := starts_any a cap zs w hs hbig
  have hl : ((pcs zs).map (fun p => ((p.at_ : Nat) : Int))).length = (pcs zs).length := by simp
  have HL := hid hl
  have H1 := hid h1
  clear h1 hs hl
  generalize (pcs zs).map (fun p => ((p.at_ : Nat) : Int)) = l at *
  generalize (pcs zs).length = n at *
  go_enter Try.func13, Try.ntmps13
  go_wp2_with fail
  refine H1.out.mono ?_
  rintro e w1 ⟨v, rfl, ⟨hr, hn⟩, hb⟩
  rcases l with _ | ⟨x, l⟩
  · obtain rfl := hn.2 rfl
    have HB := hid hb
    clear hr hn hb
    go_wp2_with fail
    go_ret
    exact ⟨ret_int (by rw [← HL.out]; rfl), HB.out⟩
  · obtain ⟨g, c, rfl⟩ := ownsRow_succ (k := l.length) (by simpa using hr)
    have HB := hid hb
    clear hr hn hb
    go_wp2_with fail
    go_ret
    exact ⟨ret_int (by rw [← HL.out]; simp), HB.out⟩
end Go.Proofs.Ytalgldnnbjlokaa
