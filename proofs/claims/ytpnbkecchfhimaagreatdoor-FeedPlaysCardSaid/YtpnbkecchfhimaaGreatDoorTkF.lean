/- Chapter 19: all tokens: slices.AppendSeq, slices.Collect, token.All: walks. -/
import Derived.Test.YtpnbkecchfhimaaGreatDoorTkE
import Derived.Deep.AppendLies
namespace Go.Proofs.YtpnbkecchfhimaaGreatDoor
open Go.RowKit Go.Shelf
open Go.Lib (hid)
attribute [local go_sem] Oper.semAt_some
set_option linter.unusedVariables false
set_option maxRecDepth 100000

theorem tokens_stops (n Bn n₀ : Nat) (a : Option Addr) (len cap : Nat) (s : ByteArray) (w : World) (hB : Bn < w.heap.size) (hn : n₀ ≤ w.heap.size) (hc : w.cell? ⟨Bn, 0, none⟩ = some (.slice a len cap)) (hlen : len = s.size) (hm : len ≤ 1000000) (hBA : ∀ A, Below n₀ w A → BA A a len cap s ∧ Mx A) :
    SeqStopsK Fence.wide n Tryz.prog 64 #[.pointer (some ⟨Bn, 0, none⟩)] (encsTk s) (KpT n₀ Bn) (fun ys => ys = (toks s).attach) (fun pre => pre <+: (toks s).attach) (toks s).length w := fun l J Jx W hW hJ _ hY h0 =>
  tokens1_in n l Bn n₀ a len cap s J Jx hY W (fun s A B h hb => hJ s A B none h (grown_of_below hb none) (fun r e => by cases e)) (Nat.le_trans hn hW.size) (Nat.lt_of_lt_of_le hB hW.size) ((hW.cell (p := ⟨Bn, 0, none⟩) hB).trans hc) hlen hm (fun A hA => hBA A ((hW.mono hn).trans hA)) h0

theorem info_tk : (Tryz.prog.info? 29).map (fun i => (i.zero, i.size, i.bytes)) = some (some (.agg tk0), 6, 48) := by kernel_rfl
/-- Tokens' cells. -/
def tkCells (l : List Tk) : List Value := l.flatMap fun t => (tkC t).toList
theorem tkCells_snoc (l : List Tk) (t : Tk) : tkCells (l ++ [t]) = tkCells l ++ (tkC t).toList := by simp [tkCells, List.flatMap_append]
theorem tkCells_len (l : List Tk) : (tkCells l).length = l.length * 6 := by
  induction l with
  | nil => rfl
  | cons t l ih =>
    have : tkCells (t :: l) = (tkC t).toList ++ tkCells l := rfl
    rw [this, List.length_append, ih, List.length_cons]
    show 6 + _ = _
    omega
def tksOf {s : ByteArray} (pre : List (TkOf s)) : List Tk := pre.map (·.1)
theorem tksOf_snoc {s : ByteArray} (pre : List (TkOf s)) (x : TkOf s) : tksOf (pre ++ [x]) = tksOf pre ++ [x.1] := by simp [tksOf]
theorem tksOf_all (s : ByteArray) : tksOf (toks s).attach = toks s := by simp [tksOf]
theorem tksOf_len {s : ByteArray} (pre : List (TkOf s)) : (tksOf pre).length = pre.length := by simp [tksOf]
/-- A list of tokens that the call has made. -/
def MadeT (n₀ : Nat) (W : World) (v : Value) (l : List Tk) : Prop := W.ownsRow n₀ 29 6 v l.length (tkCells l) ∧ (v = .slice none 0 0 ↔ l = [])

def apTmps (Bn BO Bx : Nat) (x : Value) : Array Value :=
  #[.slice none 0 0, .func (.func 64) #[] #[.pointer (some ⟨Bn, 0, none⟩)], .pointer (some ⟨BO, 0, none⟩), undef, .slice none 0 0, .pointer (some ⟨Bx, 0, none⟩), .func (.func 64) #[] #[.pointer (some ⟨Bn, 0, none⟩)], x, undef, undef, undef, undef, undef]
set_option maxHeartbeats 8000000 in
theorem appendSeq_tok (Bn : Nat) (a : Option Addr) (len cap : Nat) (s : ByteArray) (w : World) (hba : BA w a len cap s) (hmx : Mx w) (hm : len ≤ 1000000) (hBl : Bn < w.heap.size) (hBn : w.cell? ⟨Bn, 0, none⟩ = some (.slice a len cap)) :
    Calls Tryz.prog 63 #[.slice none 0 0, .func (.func 64) #[] #[.pointer (some ⟨Bn, 0, none⟩)]] w fun e W' => ∃ v, e = .returned v ∧ MadeT w.heap.size W' v (toks s) ∧ Below w.heap.size w W' := by
  obtain ⟨i0, hi, hz0, hz1, hz2⟩ := info_parts info_tk
  have hlen := toks_len s
  have hls := hba.1
  refine (callsIn_wide (n := 6)).1 ?_
  refine callsIn_of_wp_marks Tryz.func63 rfl trivial ?_ rfl
  simp only [Tryz.ntmps63, List.size_toArray, List.length_cons, List.length_nil, Nat.reduceAdd, Nat.reduceSub, Array.replicate_succ, Array.replicate_zero, List.push_toArray, List.append_toArray, List.nil_append, List.cons_append]
  gi_wp2_with fail
  have bO := Boxed.new w 24 (.slice none 0 0)
  have hB0 : Below w.heap.size w (w.alloc (.cells #[.slice none 0 0] 24)) := (Below.refl _ w).alloc (Nat.le_refl _) _
  have hsz : (w.alloc (.cells #[.slice none 0 0] 24)).heap.size = w.heap.size + 1 := by simp
  have hcn := (hB0.cell (p := ⟨Bn, 0, none⟩) hBl).trans hBn
  generalize w.alloc (.cells #[.slice none 0 0] 24) = W0 at *
  refine wpIn_rangeFunc_ownH rfl (by omega) (gf := 64) (lb := #[.pointer (some ⟨Bn, 0, none⟩)]) rfl trivial (enters_of Tryz.func64 (by kernel_rfl) rfl)
    (tokens_stops _ Bn w.heap.size a len cap s W0 (by omega) (by omega) hcn hls hm (fun A hA => ⟨hba.below (hB0.trans hA) (Nat.le_refl _), hmx.below (hB0.trans hA) (Nat.le_refl _)⟩)) (fun h k => h.trans k) (KpT.putObj (by omega) (by omega)) (Below.refl _ _) (fun _ => rfl)
    (fun pre W => (∃ v, Boxed W w.heap.size 24 v ∧ W.ownsRow w.heap.size 29 6 v (tksOf pre).length (tkCells (tksOf pre)) ∧ (v = .slice none 0 0 ↔ tksOf pre = [])) ∧ Below w.heap.size w W)
    (fun _ _ _ => False)
    (OwnFrom.and (Own.from (holdsRow_own w.heap.size w.heap.size 24 29 6 (fun pre => (tksOf pre).length) (fun pre => tkCells (tksOf pre)) (fun pre v => v = .slice none 0 0 ↔ tksOf pre = [])) _) (ownFrom_below (Nat.le_refl _) (by omega)))
    (fun _ _ _ _ _ hs _ _ => hs)
    ⟨⟨_, bO, World.ownsRow_nil _ _ _ _, by simp [tksOf]⟩, hB0⟩
    (fun x a' W => ∃ Bx, w.heap.size < Bx ∧ W.heap[Bx]? = some (.cells (tkC x.1) 29 (0, 0)) ∧ a' = { tmps := apTmps Bn w.heap.size Bx (encTk x.1), defers := [] })
    (fun x a' _ X Y row hs hg hr => by
      obtain ⟨Bx, h1, h2, h3⟩ := hs
      refine ⟨Bx, h1, ?_, h3⟩
      refine (hg.block Bx (Array.getElem?_eq_some_iff.1 h2).1 (fun e => ?_)).trans h2
      obtain ⟨_, o, ho, hc⟩ := hr Bx e.symm
      rw [h2] at ho
      cases ho
      cases hc)
    ?assign ?body ?done ?stop
  case assign =>
    rintro l pre x W K ⟨⟨v, hv, hrow, hnil⟩, hB⟩ hK
    have HK := hid hK
    have HROW := hid hrow
    have HNIL := hid hnil
    have HV := hid hv
    have HB := hid hB
    have hlv := hv.lt
    clear hK hrow hnil hv hB
    simp only [encsTk, encTk, tkC]
    gi_wp2
    have hbl := (Below.refl W.heap.size W).alloc (Nat.le_refl _) (.cells (tkC x.1) 29)
    refine HK.out _ _ ((KeepsOthers.alloc _ _).from _) (KpT.of_below hbl HB.out.size (by have := HB.out.size; omega)) ⟨⟨v, HV.out.alloc _, HROW.out.alloc _, HNIL.out⟩, HB.out.alloc HB.out.size _⟩
      ⟨W.heap.size, hlv, World.alloc_heap_new W _, rfl⟩
  case body =>
    rintro l pre x a' W hl ⟨rc, hrc⟩ ⟨⟨v, hv, hrow, hnil⟩, hB⟩ ⟨Bx, hBx, bX, rfl⟩ hlt
    have hc := hv.cell
    have bX' : Blk W Bx 29 (tkC x.1) := bX
    have y0 := bX'.cell 0
    have y1 := bX'.cell 1
    have y2 := bX'.cell 2
    have y3 := bX'.cell 3
    have y4 := bX'.cell 4
    have y5 := bX'.cell 5
    simp only [tkC, List.getElem?_toArray, List.getElem?_cons_zero, List.getElem?_cons_succ] at y0 y1 y2 y3 y4 y5
    have hrl := tksOf_len pre
    have hsw := hB.size
    have HB := hid hB
    have HNIL := hid hnil
    have hk1 : (tksOf pre).length + 1 ≤ 1000000 := by omega
    have hne : 24 ≠ 29 := by decide
    have HV := hid hv
    have HROW := hid hrow
    have e1 := tksOf_snoc pre x
    have HX := hid (show tkC x.1 = #[.int .i64 x.1.kind, .int .i64 x.1.fr, .int .i64 x.1.til, .string x.1.name, .int .i32 x.1.r, .bool x.1.single] from rfl)
    have HE := hid e1
    have hn0 : v = .slice none 0 0 ↔ (tksOf pre).length = 0 := hnil.trans List.length_eq_zero_iff.symm
    have HN0 := hid hn0
    generalize x.1 = t at *
    obtain ⟨kd, fr, til, nm, r, sg⟩ := t
    clear hrl hlt hlen hB hnil hv hrow bX bX' e1 hn0 hls
    simp only at y0 y1 y2 y3 y4 y5
    unfold apTmps encTk tkC
    simp only
    gi_wp2_with (gi_at_builtin; refine wpListIn_append_keep _ rfl _ _ 24 rfl w.heap.size 29 i0 (.agg tk0) 6 48 Tryz.underlying24 hi hz0 hz1 hz2 rfl (by decide) _ _ _ rfl (HROW.out.alloc _) ⟨W.heap.size, 0, none⟩ 1 1 [.int .i64 kd, .int .i64 fr, .int .i64 til, .string nm, .int .i32 r, .bool sg] rfl rfl (World.news_of_block (World.alloc_heap_new W _)) (by simp [Value.oneCell']) (by unfold maxLen; omega) (by omega) (by simp; omega) HN0.out ?_; intro v' w1 hown' hgrow hnil' hhd; obtain ⟨g', cap', rfl⟩ := ownsRow_succ hown'; obtain ⟨hv1, hv2, hr2, hk2, hb2⟩ := HV.out.appended hne HROW.out (by omega) (Nat.le_refl _) hown' hgrow; have hc1 := hv1.cell; have hf1 := hv1.frozen)
    have hkt : HeadK 29 6 W (w1.setCell ⟨w.heap.size, 0, none⟩ (.slice (some ⟨g', 0, none⟩) ((tksOf pre).length + 1) cap')) :=
      ((HeadK.of_below ((Below.refl W.heap.size W).alloc (Nat.le_refl _) _)).trans hhd).trans (HeadK.set_far (t := 24) w1 ⟨w.heap.size, 0, none⟩ _ _ hv1 hne)
    exact ⟨hk2.from _, ⟨hb2, hb2.block Bn hBl, hkt⟩, ⟨_, hv2, by rw [HE.out, tkCells_snoc, List.length_append, List.length_singleton]; exact hr2, by rw [HE.out]; simp⟩, HB.out.trans hb2⟩
  case done =>
    rintro D ys W hD rfl ⟨⟨v, hv, hrow, hnil⟩, hB⟩ hK
    have hc := hv.cell
    rw [tksOf_all] at hrow hnil
    have HROW := hid hrow
    have HNIL := hid hnil
    have HB := hid hB
    clear hrow hnil hB hv
    gi_wp2
    refine ⟨by simp, .inl ⟨_, _, rfl, run_takeDeferred hK, ?_⟩⟩
    exact ⟨_, results_tmp rfl _ _ _, v, rfl, ⟨ownsRow_putObj HROW.out _ hK rfl, HNIL.out⟩, HB.out.trans (belowK_b (w := w) (Nat.le_refl _) W D _ _ (by omega) hK rfl rfl)⟩
  case stop =>
    rintro D c pre W _ _ h _
    exact h.elim
theorem collect_tok (Bn : Nat) (a : Option Addr) (len cap : Nat) (s : ByteArray) (w : World) (hba : BA w a len cap s) (hmx : Mx w) (hm : len ≤ 1000000) (hBl : Bn < w.heap.size) (hBn : w.cell? ⟨Bn, 0, none⟩ = some (.slice a len cap)) :
    Calls Tryz.prog 37 #[.func (.func 64) #[] #[.pointer (some ⟨Bn, 0, none⟩)]] w fun e W' => ∃ v, e = .returned v ∧ MadeT w.heap.size W' v (toks s) ∧ Below w.heap.size w W' := by
  have HA := hid (appendSeq_tok Bn a len cap s w hba hmx hm hBl hBn)
  clear hba hmx hBl hBn
  go_enter Tryz.func37, Tryz.ntmps37
  go_wp2_with fail
  refine HA.out.mono ?_
  rintro e w2 ⟨v, rfl, hmd, hb2⟩
  have HM := hid hmd
  have HB2 := hid hb2
  clear hmd hb2
  go_wp2_with fail
  go_ret
  exact ⟨v, rfl, HM.out, HB2.out⟩
/-- token.All. -/
theorem tokAll_any (a : Option Addr) (len cap : Nat) (s : ByteArray) (w : World) (hba : BA w a len cap s) (hmx : Mx w) (hm : len ≤ 1000000) :
    Calls Tryz.prog 13 #[.slice a len cap] w fun e W' => ∃ v, e = .returned v ∧ MadeT w.heap.size W' v (toks s) ∧ Below w.heap.size w W' := by
  have hb1 : Below w.heap.size w (w.alloc (.cells #[.slice a len cap] 22)) := (Below.refl _ w).alloc (Nat.le_refl _) _
  have HT := hid (tokens_any (.slice a len cap) a len cap rfl w)
  have HC := hid (collect_tok w.heap.size a len cap s _ (hba.below hb1 (Nat.le_refl _)) (hmx.below hb1 (Nat.le_refl _)) hm (by simp) (by simp))
  have HB1 := hid hb1
  clear hba hmx hb1
  go_enter Tryz.func13, Tryz.ntmps13
  go_wp2_with fail
  refine HT.out.mono ?_
  rintro e w2 ⟨rfl, rfl⟩
  go_wp2_with fail
  refine HC.out.mono ?_
  rintro e w2 ⟨v, rfl, hmd, hb2⟩
  have HM := hid (show MadeT w.heap.size w2 v (toks s) from ⟨owns_base hmd.1 (by simp), hmd.2⟩)
  have HB2 := hid (HB1.out.trans (hb2.mono HB1.out.size))
  clear hmd hb2
  go_wp2_with fail
  go_ret
  exact ⟨v, rfl, HM.out, HB2.out⟩
end Go.Proofs.YtpnbkecchfhimaaGreatDoor
