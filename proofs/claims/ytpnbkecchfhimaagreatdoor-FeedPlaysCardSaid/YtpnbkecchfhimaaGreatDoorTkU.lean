/- Chapter 19: the document's All: the walk. -/
import Derived.Test.YtpnbkecchfhimaaGreatDoorTkT
import Derived.BigQuiet
import Derived.Deep.DeepCutAuto
import Derived.Deep.AppendLies
import Derived.OwnWalk
namespace Go.Proofs.YtpnbkecchfhimaaGreatDoor
open Go.RowKit Go.Shelf
open Go.Lib (hid)
set_option linter.unusedVariables false
set_option maxRecDepth 100000

theorem info_tD : (Tryz.prog.info? 42).map (fun i => (i.zero, i.size, i.bytes)) = some (some (.agg t0C), 7, 48) := by kernel_rfl
def tD (t : Tk) : Array Value := tC t.kind t.fr t.til t.name t.r t.single false
def tdCells (l : List Tk) : List Value := l.flatMap fun t => (tD t).toList
theorem tdCells_snoc (l : List Tk) (t : Tk) : tdCells (l ++ [t]) = tdCells l ++ (tD t).toList := by simp [tdCells, List.flatMap_append]
theorem tdCells_len (l : List Tk) : (tdCells l).length = l.length * 7 := by
  induction l with
  | nil => rfl
  | cons t l ih =>
    have : tdCells (t :: l) = (tD t).toList ++ tdCells l := rfl
    rw [this, List.length_append, ih, List.length_cons]
    show 7 + _ = _
    omega
theorem tdCells_get : ∀ (l : List Tk) (j : Nat) (h : j < l.length) (f : Nat), f < 7 → (tdCells l)[j * 7 + f]? = (tD l[j])[f]?
  | t :: l, 0, h, f, hf => by
    have e : tdCells (t :: l) = (tD t).toList ++ tdCells l := rfl
    rw [e, Nat.zero_mul, Nat.zero_add, List.getElem?_append_left (by show f < 7; exact hf)]
    simp
  | t :: l, j + 1, h, f, hf => by
    have e : tdCells (t :: l) = (tD t).toList ++ tdCells l := rfl
    have h7 : (tD t).toList.length = 7 := rfl
    rw [e, List.getElem?_append_right (by rw [h7]; omega), h7, show (j + 1) * 7 + f - 7 = j * 7 + f by omega]
    exact tdCells_get l j (by simpa using h) f hf
/-- The last token of a row. -/
theorem last_cells {W : World} {B : Nat} {A : Option Addr} {c : Nat} {l : List Tk} {z : Tk} (h : W.ownsRow B 42 7 (.slice A (l.length + 1) c) (l.length + 1) (tdCells (l ++ [z]))) :
    ∃ g, A = some ⟨g, 0, none⟩ ∧ g < W.heap.size ∧ l.length + 1 ≤ c ∧ W.cell? ⟨g, l.length * 7, none⟩ = some (.int .i64 z.kind) ∧ W.cell? ⟨g, l.length * 7 + 1, none⟩ = some (.int .i64 z.fr) ∧
      W.ownsRow B 42 7 (.slice A l.length c) l.length (tdCells l) := by
  obtain ⟨g, c', e⟩ := ownsRow_succ (k := l.length) h
  injection e with e1 e2 e3
  subst e1
  subst e3
  have hl : l.length < (l ++ [z]).length := by simp
  have hz : (l ++ [z])[l.length] = z := by simp
  have g0 := tdCells_get (l ++ [z]) l.length hl 0 (by decide)
  have g1 := tdCells_get (l ++ [z]) l.length hl 1 (by decide)
  rw [hz] at g0 g1
  refine ⟨g, rfl, (h.lt g rfl).2, ?_, ?_, ?_, ?_⟩
  · rcases h.2 with ⟨h, _⟩ | ⟨g', cap, cur, e, _, _, h1, _⟩
    · cases h
    · injection e with _ _ e3
      subst e3
      exact h1
  · rw [h.cellAt _ (by omega), show l.length * 7 = l.length * 7 + 0 from rfl, g0]
    rfl
  · rw [h.cellAt _ (by omega), g1]
    rfl
  · refine ⟨by rw [tdCells_len], ?_⟩
    rcases h.2 with ⟨h, _⟩ | ⟨g', cap, cur, e, b1, b2, b3, b4, b5, b6⟩
    · cases h
    · injection e with e1 _ e3
      injection e1 with e1
      injection e1 with e1 _ _
      subst e1
      subst e3
      refine .inr ⟨g, c, cur, rfl, b1, b2, by omega, b4, b5, ?_⟩
      rw [tdCells_snoc] at b6
      have := congrArg (List.take (l.length * 7)) b6
      rw [List.take_take, List.take_left' (by rw [tdCells_len])] at this
      rw [← this, show min (l.length * 7) ((l.length + 1) * 7) = l.length * 7 by omega]
theorem slice_head7 (g n c j : Nat) (hj : j ≤ c) (hc : 0 < c) (W : World) : (Instr.slice 35 (.slice (some ⟨g, 0, none⟩) n c) none (some (.int .i64 j)) none).run Tryz.prog W = .ok (.slice (some ⟨g, 0, none⟩) j c) W := by
  have h1 : ¬ (c : Int) < (j : Int) := by omega
  have h2 : (j : Int) ≤ (c : Int) := by omega
  have h3 : ¬ c = 0 := by omega
  go_simp
def MadeD (n₀ : Nat) (W : World) (v : Value) (l : List Tk) : Prop := W.ownsRow n₀ 42 7 v l.length (tdCells l)
theorem sSet7_blk2 {w : World} {r : Nat} {k f t : Int} {nm : ByteArray} {z : Int} {sg cl : Bool} {a b c d e g h' : Value} (h : Blk w r 42 #[a, b, c, d, e, g, h']) : Blk (sSet7 w r k f t nm z sg cl) r 42 (tC k f t nm z sg cl) := by
  have := ((((((h.set_ 0 (.int .i64 k)).set_ 1 (.int .i64 f)).set_ 2 (.int .i64 t)).set_ 3 (.string nm)).set_ 4 (.int .i32 z)).set_ 5 (.bool sg)).set_ 6 (.bool cl)
  unfold sSet7
  simpa [tC] using this
theorem sSet7_own {w : World} {B r n : Nat} {k f t : Int} {nm : ByteArray} {z : Int} {sg cl : Bool} {e : TypeId} {sz : Nat} {v : Value} {xs : List Value} (h : w.ownsRow B e sz v n xs) (hne : ∀ k, v.ownBlock = some k → k < r) : (sSet7 w r k f t nm z sg cl).ownsRow B e sz v n xs := by
  have hr : ∀ k, v.ownBlock = some k → some r ≠ some k := fun k hk e => by injection e with e; exact Nat.lt_irrefl _ (e ▸ hne k hk)
  exact own_kept (own_kept (own_kept (own_kept (own_kept (own_kept (own_kept h (grown_set _ r 0 _) hr) (grown_set _ r 1 _) hr) (grown_set _ r 2 _) hr) (grown_set _ r 3 _) hr) (grown_set _ r 4 _) hr) (grown_set _ r 5 _) hr) (grown_set _ r 6 _) hr
set_option maxHeartbeats 16000000 in
theorem refAll_any (a : Option Addr) (n cap : Nat) (s : ByteArray) (w : World) (hb : BA w a n cap s) (hm : n ≤ 1000000) :
    Calls Tryz.prog 16 #[.slice a n cap] w fun e w' => ∃ v, e = .returned v ∧ MadeD w.heap.size w' v (toks s) ∧ Below w.heap.size w w' := by
  obtain ⟨i0, hti, htz0, htz1, htz2⟩ := info_parts info_tD
  have HNS := hid hb.1
  have HEN := hid (fun W (h : Below w.heap.size w W) (j : Nat) (hj : j < n) (x : ByteArray) (hx : x.size ≤ 1000000) => refends_any a n cap j s x W (hb.below h (Nat.le_refl _)) hm hj hx)
  have HBG := hid (fun W (h : Below w.heap.size w W) (j : Nat) (hj : j < n) => refbegins_any a n cap j s W (hb.below h (Nat.le_refl _)) hm hj)
  have HREF := hid (ref_toks s)
  clear hb
  go_enter Tryz.func16, Tryz.ntmps16
  go_wp2_with fail
  go_loopg [3, 4, 5] n (fun kx s3 s4 s5 wr => ∃ (i ln c : Nat) (A : Option Addr) (nm : ByteArray) (l : List Tk), s3 = .slice A ln c ∧ s4 = .string nm ∧ s5 = .int .i64 i ∧ i ≤ n ∧ n - i ≤ kx ∧ ln ≤ i ∧ Hid (ln = l.length) ∧ Hid (wr.ownsRow w.heap.size 42 7 (.slice A ln c) ln (tdCells l)) ∧ Hid (∃ f, n - i ≤ f ∧ refF f s i nm l = toks s) ∧ Hid (nm = noB ∨ nm = scriptB ∨ nm = styleB) ∧ Hid (Below w.heap.size w wr))
  case atStart => exact ⟨0, 0, 0, none, ⟨#[]⟩, [], rfl, rfl, rfl, Nat.zero_le _, Nat.le_refl _, Nat.le_refl _, rfl, World.ownsRow_nil _ _ _ _, ⟨s.size, by rw [HNS.out]; omega, HREF.out⟩, .inl rfl, Below.refl _ _⟩
  case round =>
    obtain ⟨i, ln, c, A, nm, l, rfl, rfl, rfl, hi, hg, hli, HLN, HROW, HF, HNM, HB⟩ := hrel
    by_cases hlt : i < n
    · have hlt' : (i : Int) < (n : Int) := by omega
      have his : i < s.size := by rw [← HNS.out]; exact hlt
      obtain ⟨f0, hf0, hF0⟩ := HF.out
      obtain ⟨f, rfl⟩ : ∃ f, f0 = f + 1 := ⟨f0 - 1, by omega⟩
      have hszr := HB.out.size
      clear HF
      by_cases hn0 : nm = noB
      · subst hn0
        have HF := hid hF0
        clear hF0
        unfold noB
        go_wp2_with fail
        refine (HBG.out _ HB.out i hlt).mono ?_
        rintro e w2 ⟨t, cl, rfl, hnone, hsome, hb2⟩
        have HB2 := hid (HB.out.trans (hb2.mono HB.out.size))
        have HROW2 := hid (owns_below HROW.out hb2)
        have HSOME := hid hsome
        have HNONE := hid hnone
        obtain ⟨tk, tf, tt, tn, tr, ts⟩ := t
        have HQ3 := hid (Blk.new w2 42 (tC tk tf tt tn tr ts cl))
        have HB3 := hid (HB2.out.alloc HB2.out.size (.cells (tC tk tf tt tn tr ts cl) 42))
        have HR3 := hid (HROW2.out.alloc (.cells (tC tk tf tt tn tr ts cl) 42))
        have HNE := hid (fun k (e : (Value.slice A ln c).ownBlock = some k) => (HROW2.out.lt k e).2)
        have hwq := HB2.out.size
        simp only [tC] at HQ3 HB3 HR3 HSOME HNONE ⊢
        clear hb2 hsome hnone
        go_upto_region 14 with fail
        generalize w2.alloc (.cells #[.int .i64 tk, .int .i64 tf, .int .i64 tt, .string tn, .int .i32 tr, .bool ts, .bool cl] 42) = w3 at *
        generalize w2.heap.size = q at *
        have y0 := HQ3.out.cell 0
        have y1 := HQ3.out.cell 1
        have y2 := HQ3.out.cell 2
        have y3 := HQ3.out.cell 3
        have y4 := HQ3.out.cell 4
        have y5 := HQ3.out.cell 5
        have y6 := HQ3.out.cell 6
        have yf := HQ3.out.frozen
        simp only [List.getElem?_toArray, List.getElem?_cons_zero, List.getElem?_cons_succ] at y0 y1 y2 y3 y4 y5 y6
        obtain ⟨i1, hi1e⟩ : ∃ i1, i1 = i + 1 := ⟨_, rfl⟩
        have HI1E := hid hi1e
        have hi1 : (i : Int) + 1 = (i1 : Int) := by omega
        have hi1n : i1 ≤ n := by omega
        have hi1l : i < i1 := by omega
        cases hs : specA s i with
        | none =>
          obtain rfl : tk = 0 := HNONE.out hs
          have hnx := refF_none his hs l f
          rw [HF.out, ← hi1e] at hnx
          have HNX := hid hnx
          clear hs hnx HSOME HNONE hi1e HF
          go_upto_region 16 with fail
          have HQ4 := hid (sSet7_blk2 (k := 0) (f := i) (t := i1) (nm := ⟨#[]⟩) (z := 0) (sg := false) (cl := false) HQ3.out)
          have HB4 := hid (sSet7_below (k := 0) (f := i) (t := i1) (nm := ⟨#[]⟩) (z := 0) (sg := false) (cl := false) hwq HB3.out)
          have HR4 := hid (sSet7_own (k := 0) (f := i) (t := i1) (nm := ⟨#[]⟩) (z := 0) (sg := false) (cl := false) HR3.out (fun k hk => HNE.out k hk))
          change Code.wp _ _ _ _ (sSet7 w3 q 0 i i1 ⟨#[]⟩ 0 false false)
          generalize sSet7 w3 q 0 i i1 ⟨#[]⟩ 0 false false = w4 at *
          simp only [tC] at HQ4
          clear y0 y1 y2 y3 y4 y5 y6 yf
          have y0 := HQ4.out.cell 0
          have y1 := HQ4.out.cell 1
          have y2 := HQ4.out.cell 2
          have y3 := HQ4.out.cell 3
          have y4 := HQ4.out.cell 4
          have y5 := HQ4.out.cell 5
          have y6 := HQ4.out.cell 6
          have yf := HQ4.out.frozen
          simp only [List.getElem?_toArray, List.getElem?_cons_zero, List.getElem?_cons_succ] at y0 y1 y2 y3 y4 y5 y6
          rcases List.eq_nil_or_concat l with hl | ⟨l', z, hl⟩
          · subst hl
            obtain rfl : ln = 0 := HLN.out
            have HNY := hid (show refF f s i1 noB ([] ++ [textTk i i1]) = toks s by rw [HNX.out, HI1E.out]; rfl)
            go_upto_region 23 with fail
            have HQX := hid (show Blk (w4.setCell ⟨q, 6, none⟩ (.bool false)) q 42 #[.int .i64 0, .int .i64 i, .int .i64 i1, .string ⟨#[]⟩, .int .i32 0, .bool false, .bool false] by have := HQ4.out.set_ 6 (.bool false); simpa using this)
            have HBX := hid (HB4.out.setCell (p := ⟨q, 6, none⟩) hwq (.bool false))
            have HROWX := hid (own_kept HR4.out (grown_set _ q 6 (.bool false)) (fun k hk e => by injection e with e; exact Nat.lt_irrefl _ (e ▸ HNE.out k hk)))
            generalize w4.setCell ⟨q, 6, none⟩ (.bool false) = wx at *
            have hqx := HQX.out.lt
            have hszx := HBX.out.size
            clear y0 y1 y2 y3 y4 y5 y6 yf
            have y0 := HQX.out.cell 0
            have y1 := HQX.out.cell 1
            have y2 := HQX.out.cell 2
            have y3 := HQX.out.cell 3
            have y4 := HQX.out.cell 4
            have y5 := HQX.out.cell 5
            have y6 := HQX.out.cell 6
            have yf := HQX.out.frozen
            simp only [List.getElem?_toArray, List.getElem?_cons_zero, List.getElem?_cons_succ] at y0 y1 y2 y3 y4 y5 y6
            go_wp2_with (at_builtin; (refine wpList_append_own _ rfl _ _ 35 rfl w.heap.size 42 i0 (.agg t0C) 7 48 Tryz.underlying35 hti htz0 htz1 htz2 rfl (by decide) _ _ _ rfl (HROWX.out.alloc _) ⟨wx.heap.size, 0, none⟩ 1 1 [.int .i64 0, .int .i64 i, .int .i64 i1, .string ⟨#[]⟩, .int .i32 0, .bool false, .bool false] rfl rfl (World.news_of_block (heap_alloc_new wx _)) (by simp [Value.oneCell']) (by unfold maxLen; omega) (by omega) (by simp; omega) ?_); intro v' w9 hown' hgrow _; obtain ⟨g', cap', rfl⟩ := ownsRow_succ hown'; (have hcs : w9.cell? ⟨q, 2, none⟩ = some (.int .i64 i1) := (hgrow.cell_far ⟨q, 2, none⟩ (by show q < _; rw [World.size_alloc]; omega) (fun e => Nat.lt_irrefl _ (HNE.out _ e.symm))).trans (((HQX.out.alloc _).cell 2).trans rfl)))
            have HBN := hid ((HBX.out.alloc HBX.out.size _).grown hgrow (by have := HBX.out.size; simp; omega) (fun k e => (HROWX.out.lt k e).1))
            go_roundg (n - i1)
            case measure => omega
            case rel => exact ⟨i1, 0 + 1, cap', some ⟨g', 0, none⟩, noB, [] ++ [textTk i i1], rfl, rfl, rfl, by omega, Nat.le_refl _, by omega, by show _ = _; rw [List.length_append, List.length_singleton, HLN.out], by show World.ownsRow _ _ _ _ _ _ _; rw [tdCells_snoc]; exact hown', ⟨f, by omega, HNY.out⟩, .inl rfl, HBN.out⟩
          · rw [List.concat_eq_append] at hl
            subst hl
            obtain ⟨lm, hlm⟩ : ∃ lm, lm = l'.length := ⟨_, rfl⟩
            have hln : ln = lm + 1 := by rw [HLN.out, hlm]; simp
            have hro := HR4.out
            rw [hln, hlm] at hro
            obtain ⟨g, rfl, hgl, hcc, z0, z1, hro2⟩ := last_cells hro
            rw [← hlm] at z0 z1 hro2 hcc
            have hm1 : (ln : Int) - 1 = (lm : Int) := by omega
            have hm2 : (0 : Int) < (ln : Int) := by omega
            have hm3 : (lm : Int) < (ln : Int) := by omega
            have hgq : g ≠ q := fun e => Nat.lt_irrefl _ (e ▸ HNE.out g rfl)
            have hsl := slice_head7 g ln c lm (by omega) (by omega)
            have HRL := hid hro2
            have HLM := hid hlm
            have HLN2 := hid hln
            have hln6 : lm + 1 ≤ i := by omega
            clear hro hro2 hlm hln
            by_cases hz0 : z.kind = 0
            · have HNY := hid (show refF f s i1 noB (l' ++ [textTk z.fr i1]) = toks s by rw [HNX.out, HI1E.out]; unfold addT; rw [List.getLast?_concat]; simp only; rw [if_pos hz0, List.dropLast_concat])
              rw [hz0] at z0
              generalize z.fr = zf at *
              clear hz0
              go_upto_region 19 with fail
              have HQ5 := hid (show Blk (w4.setCell ⟨q, 1, none⟩ (.int .i64 zf)) q 42 #[.int .i64 0, .int .i64 zf, .int .i64 i1, .string ⟨#[]⟩, .int .i32 0, .bool false, .bool false] by have := HQ4.out.set_ 1 (.int .i64 zf); simpa using this)
              have HB5 := hid (HB4.out.setCell (p := ⟨q, 1, none⟩) hwq (.int .i64 zf))
              have HR5 := hid (own_kept HRL.out (grown_set _ q 1 (.int .i64 zf)) (fun k hk e => by injection e with e; exact Nat.lt_irrefl _ (e ▸ HNE.out k hk)))
              generalize w4.setCell ⟨q, 1, none⟩ (.int .i64 zf) = w5 at *
              clear y0 y1 y2 y3 y4 y5 y6 yf z0 z1
              have y0 := HQ5.out.cell 0
              have y1 := HQ5.out.cell 1
              have y2 := HQ5.out.cell 2
              have y3 := HQ5.out.cell 3
              have y4 := HQ5.out.cell 4
              have y5 := HQ5.out.cell 5
              have y6 := HQ5.out.cell 6
              have yf := HQ5.out.frozen
              simp only [List.getElem?_toArray, List.getElem?_cons_zero, List.getElem?_cons_succ] at y0 y1 y2 y3 y4 y5 y6
              go_upto_region 23 with fail
              have HQX := hid (show Blk (w5.setCell ⟨q, 6, none⟩ (.bool false)) q 42 #[.int .i64 0, .int .i64 zf, .int .i64 i1, .string ⟨#[]⟩, .int .i32 0, .bool false, .bool false] by have := HQ5.out.set_ 6 (.bool false); simpa using this)
              have HBX := hid (HB5.out.setCell (p := ⟨q, 6, none⟩) hwq (.bool false))
              have HROWX := hid (own_kept HR5.out (grown_set _ q 6 (.bool false)) (fun k hk e => by injection e with e; exact Nat.lt_irrefl _ (e ▸ HNE.out k hk)))
              generalize w5.setCell ⟨q, 6, none⟩ (.bool false) = wx at *
              have hqx := HQX.out.lt
              have hszx := HBX.out.size
              clear y0 y1 y2 y3 y4 y5 y6 yf
              have y0 := HQX.out.cell 0
              have y1 := HQX.out.cell 1
              have y2 := HQX.out.cell 2
              have y3 := HQX.out.cell 3
              have y4 := HQX.out.cell 4
              have y5 := HQX.out.cell 5
              have y6 := HQX.out.cell 6
              have yf := HQX.out.frozen
              simp only [List.getElem?_toArray, List.getElem?_cons_zero, List.getElem?_cons_succ] at y0 y1 y2 y3 y4 y5 y6
              go_wp2_with (at_builtin; (refine wpList_append_own _ rfl _ _ 35 rfl w.heap.size 42 i0 (.agg t0C) 7 48 Tryz.underlying35 hti htz0 htz1 htz2 rfl (by decide) _ _ _ rfl (HROWX.out.alloc _) ⟨wx.heap.size, 0, none⟩ 1 1 [.int .i64 0, .int .i64 zf, .int .i64 i1, .string ⟨#[]⟩, .int .i32 0, .bool false, .bool false] rfl rfl (World.news_of_block (heap_alloc_new wx _)) (by simp [Value.oneCell']) (by unfold maxLen; omega) (by omega) (by simp; omega) ?_); intro v' w9 hown' hgrow _; obtain ⟨g', cap', rfl⟩ := ownsRow_succ hown'; (have hcs : w9.cell? ⟨q, 2, none⟩ = some (.int .i64 i1) := (hgrow.cell_far ⟨q, 2, none⟩ (by show q < _; rw [World.size_alloc]; omega) (fun e => Nat.lt_irrefl _ (HNE.out _ e.symm))).trans (((HQX.out.alloc _).cell 2).trans rfl)))
              have HBN := hid ((HBX.out.alloc HBX.out.size _).grown hgrow (by have := HBX.out.size; simp; omega) (fun k e => (HROWX.out.lt k e).1))
              go_roundg (n - i1)
              case measure => omega
              case rel => exact ⟨i1, lm + 1, cap', some ⟨g', 0, none⟩, noB, l' ++ [textTk zf i1], rfl, rfl, rfl, by omega, Nat.le_refl _, by omega, by show _ = _; rw [List.length_append, List.length_singleton, HLM.out], by show World.ownsRow _ _ _ _ _ _ _; rw [tdCells_snoc]; exact hown', ⟨f, by omega, HNY.out⟩, .inl rfl, HBN.out⟩
            · have HNY := hid (show refF f s i1 noB (l' ++ [z] ++ [textTk i i1]) = toks s by rw [HNX.out, HI1E.out]; unfold addT; rw [List.getLast?_concat]; simp only; rw [if_neg hz0])
              have hz0b : (z.kind == 0) = false := by simpa using hz0
              generalize z.kind = zk at *
              clear hz0
              go_upto_region 23 with fail
              have HQX := hid (show Blk (w4.setCell ⟨q, 6, none⟩ (.bool false)) q 42 #[.int .i64 0, .int .i64 i, .int .i64 i1, .string ⟨#[]⟩, .int .i32 0, .bool false, .bool false] by have := HQ4.out.set_ 6 (.bool false); simpa using this)
              have HBX := hid (HB4.out.setCell (p := ⟨q, 6, none⟩) hwq (.bool false))
              have HROWX := hid (own_kept HR4.out (grown_set _ q 6 (.bool false)) (fun k hk e => by injection e with e; exact Nat.lt_irrefl _ (e ▸ HNE.out k hk)))
              generalize w4.setCell ⟨q, 6, none⟩ (.bool false) = wx at *
              have hqx := HQX.out.lt
              have hszx := HBX.out.size
              clear y0 y1 y2 y3 y4 y5 y6 yf
              have y0 := HQX.out.cell 0
              have y1 := HQX.out.cell 1
              have y2 := HQX.out.cell 2
              have y3 := HQX.out.cell 3
              have y4 := HQX.out.cell 4
              have y5 := HQX.out.cell 5
              have y6 := HQX.out.cell 6
              have yf := HQX.out.frozen
              simp only [List.getElem?_toArray, List.getElem?_cons_zero, List.getElem?_cons_succ] at y0 y1 y2 y3 y4 y5 y6
              go_wp2_with (at_builtin; (refine wpList_append_own _ rfl _ _ 35 rfl w.heap.size 42 i0 (.agg t0C) 7 48 Tryz.underlying35 hti htz0 htz1 htz2 rfl (by decide) _ _ _ rfl (HROWX.out.alloc _) ⟨wx.heap.size, 0, none⟩ 1 1 [.int .i64 0, .int .i64 i, .int .i64 i1, .string ⟨#[]⟩, .int .i32 0, .bool false, .bool false] rfl rfl (World.news_of_block (heap_alloc_new wx _)) (by simp [Value.oneCell']) (by unfold maxLen; omega) (by omega) (by simp; omega) ?_); intro v' w9 hown' hgrow _; obtain ⟨g', cap', rfl⟩ := ownsRow_succ hown'; (have hcs : w9.cell? ⟨q, 2, none⟩ = some (.int .i64 i1) := (hgrow.cell_far ⟨q, 2, none⟩ (by show q < _; rw [World.size_alloc]; omega) (fun e => Nat.lt_irrefl _ (HNE.out _ e.symm))).trans (((HQX.out.alloc _).cell 2).trans rfl)))
              have HBN := hid ((HBX.out.alloc HBX.out.size _).grown hgrow (by have := HBX.out.size; simp; omega) (fun k e => (HROWX.out.lt k e).1))
              go_roundg (n - i1)
              case measure => omega
              case rel => exact ⟨i1, ln + 1, cap', some ⟨g', 0, none⟩, noB, (l' ++ [z]) ++ [textTk i i1], rfl, rfl, rfl, by omega, Nat.le_refl _, by omega, by show _ = _; rw [List.length_append, List.length_singleton, HLN.out], by show World.ownsRow _ _ _ _ _ _ _; rw [tdCells_snoc]; exact hown', ⟨f, by omega, HNY.out⟩, .inl rfl, HBN.out⟩
        | some sp =>
          obtain ⟨he, hraw⟩ := HSOME.out sp hs
          have hbd := specA_bd hs
          have hnx := refF_some his hs l f
          rw [HF.out] at hnx
          have hrn := fun h => (specA_raw hs h).2
          obtain ⟨kd, sz, nm', r, sg, raw⟩ := sp
          simp only [spTk, Tk.mk.injEq] at he
          obtain ⟨rfl, rfl, rfl, rfl, rfl, rfl⟩ := he
          obtain ⟨til, htil⟩ : ∃ til, til = tf + sz := ⟨_, rfl⟩
          simp only at hraw hbd hnx hrn
          have hspk : spTk tf ⟨tk, sz, tn, tr, ts, raw⟩ = ⟨tk, tf, til, tn, tr, ts⟩ := by rw [htil]; rfl
          rw [hspk, ← htil] at hnx
          have hk0 : ¬ tk = 0 := by omega
          have hk0b : (tk == 0) = false := by simpa using hk0
          have htn : til ≤ n := by have := HNS.out; omega
          have htl : tf < til := by omega
          rw [← htil] at HQ3 y2
          have HNX := hid hnx
          have HRN := hid hrn
          have HRAW := hid hraw
          clear hs hnx hrn HSOME HNONE hi1e hi1 hi1n hi1l HF hk0 hraw hbd hspk htil
          go_upto_region 20 with fail
          go_cut [103] (fun s103 wx => s103 = .bool raw ∧ wx = w3)
          case first =>
            by_cases hk2 : tk = 2
            · subst hk2
              cases cl
              · have HR := hid (show raw = false by rw [← HRAW.out]; rfl)
                go_wp2_with fail
                go_meet
                exact ⟨by rw [HR.out], rfl⟩
              · cases ts
                · by_cases hs1 : tn = scriptB
                  · have HR := hid (show raw = true by rw [← HRAW.out, hs1]; rfl)
                    subst hs1
                    unfold scriptB at *
                    go_wp2_with fail
                    go_meet
                    exact ⟨by rw [HR.out], rfl⟩
                  · have n1 : ¬ tn.toList = [115, 99, 114, 105, 112, 116] := fun h => hs1 (by
                      rw [Lib.toList_data] at h
                      exact ByteArray.ext (Array.toList_inj.1 (h.trans rfl)))
                    have n1b : (tn.toList == [115, 99, 114, 105, 112, 116]) = false := by simpa using n1
                    by_cases hs2 : tn = styleB
                    · have HR := hid (show raw = true by rw [← HRAW.out, hs2]; rfl)
                      subst hs2
                      clear hs1
                      unfold styleB at *
                      go_wp2_with fail
                      go_meet
                      exact ⟨by rw [HR.out], rfl⟩
                    · have n2 : ¬ tn.toList = [115, 116, 121, 108, 101] := fun h => hs2 (by
                        rw [Lib.toList_data] at h
                        exact ByteArray.ext (Array.toList_inj.1 (h.trans rfl)))
                      have n2b : (tn.toList == [115, 116, 121, 108, 101]) = false := by simpa using n2
                      have HR := hid (show raw = false by rw [← HRAW.out]; unfold rawsB; rw [decide_eq_false hs1, decide_eq_false hs2]; rfl)
                      clear hs1 hs2
                      go_wp2_with fail
                      go_meet
                      exact ⟨by rw [HR.out], rfl⟩
                · have HR := hid (show raw = false by rw [← HRAW.out]; rfl)
                  go_wp2_with fail
                  go_meet
                  exact ⟨by rw [HR.out], rfl⟩
            · have hk2b : (tk == 2) = false := by simpa using hk2
              have HR := hid (show raw = false by rw [← HRAW.out, decide_eq_false hk2]; rfl)
              clear hk2
              go_wp2_with fail
              go_meet
              exact ⟨by rw [HR.out], rfl⟩
          case rest =>
            obtain ⟨rfl, hwx⟩ := hcut
            obtain rfl : w3 = _ := hwx.symm
            cases raw
            · have HNY := hid (show refF f s til noB (l ++ [⟨tk, tf, til, tn, tr, ts⟩]) = toks s by rw [HNX.out]; rfl)
              go_upto_region 23 with fail
              have HQX := hid (show Blk (w3.setCell ⟨q, 6, none⟩ (.bool false)) q 42 #[.int .i64 tk, .int .i64 tf, .int .i64 til, .string tn, .int .i32 tr, .bool ts, .bool false] by have := HQ3.out.set_ 6 (.bool false); simpa using this)
              have HBX := hid (HB3.out.setCell (p := ⟨q, 6, none⟩) hwq (.bool false))
              have HROWX := hid (own_kept HR3.out (grown_set _ q 6 (.bool false)) (fun k hk e => by injection e with e; exact Nat.lt_irrefl _ (e ▸ HNE.out k hk)))
              generalize w3.setCell ⟨q, 6, none⟩ (.bool false) = wx at *
              have hqx := HQX.out.lt
              have hszx := HBX.out.size
              clear y0 y1 y2 y3 y4 y5 y6 yf
              have y0 := HQX.out.cell 0
              have y1 := HQX.out.cell 1
              have y2 := HQX.out.cell 2
              have y3 := HQX.out.cell 3
              have y4 := HQX.out.cell 4
              have y5 := HQX.out.cell 5
              have y6 := HQX.out.cell 6
              have yf := HQX.out.frozen
              simp only [List.getElem?_toArray, List.getElem?_cons_zero, List.getElem?_cons_succ] at y0 y1 y2 y3 y4 y5 y6
              go_wp2_with (at_builtin; (refine wpList_append_own _ rfl _ _ 35 rfl w.heap.size 42 i0 (.agg t0C) 7 48 Tryz.underlying35 hti htz0 htz1 htz2 rfl (by decide) _ _ _ rfl (HROWX.out.alloc _) ⟨wx.heap.size, 0, none⟩ 1 1 [.int .i64 tk, .int .i64 tf, .int .i64 til, .string tn, .int .i32 tr, .bool ts, .bool false] rfl rfl (World.news_of_block (heap_alloc_new wx _)) (by simp [Value.oneCell']) (by unfold maxLen; omega) (by omega) (by simp; omega) ?_); intro v' w9 hown' hgrow _; obtain ⟨g', cap', rfl⟩ := ownsRow_succ hown'; (have hcs : w9.cell? ⟨q, 2, none⟩ = some (.int .i64 til) := (hgrow.cell_far ⟨q, 2, none⟩ (by show q < _; rw [World.size_alloc]; omega) (fun e => Nat.lt_irrefl _ (HNE.out _ e.symm))).trans (((HQX.out.alloc _).cell 2).trans rfl)))
              have HBN := hid ((HBX.out.alloc HBX.out.size _).grown hgrow (by have := HBX.out.size; simp; omega) (fun k e => (HROWX.out.lt k e).1))
              go_roundg (n - til)
              case measure => omega
              case rel => exact ⟨til, ln + 1, cap', some ⟨g', 0, none⟩, noB, l ++ [⟨tk, tf, til, tn, tr, ts⟩], rfl, rfl, rfl, by omega, Nat.le_refl _, by omega, by show _ = _; rw [List.length_append, List.length_singleton, HLN.out], by show World.ownsRow _ _ _ _ _ _ _; rw [tdCells_snoc]; exact hown', ⟨f, by omega, HNY.out⟩, .inl rfl, HBN.out⟩
            · have HNY := hid (show refF f s til tn (l ++ [⟨tk, tf, til, tn, tr, ts⟩]) = toks s by rw [HNX.out]; rfl)
              go_upto_region 23 with fail
              have HQX := hid (show Blk (w3.setCell ⟨q, 6, none⟩ (.bool false)) q 42 #[.int .i64 tk, .int .i64 tf, .int .i64 til, .string tn, .int .i32 tr, .bool ts, .bool false] by have := HQ3.out.set_ 6 (.bool false); simpa using this)
              have HBX := hid (HB3.out.setCell (p := ⟨q, 6, none⟩) hwq (.bool false))
              have HROWX := hid (own_kept HR3.out (grown_set _ q 6 (.bool false)) (fun k hk e => by injection e with e; exact Nat.lt_irrefl _ (e ▸ HNE.out k hk)))
              generalize w3.setCell ⟨q, 6, none⟩ (.bool false) = wx at *
              have hqx := HQX.out.lt
              have hszx := HBX.out.size
              clear y0 y1 y2 y3 y4 y5 y6 yf
              have y0 := HQX.out.cell 0
              have y1 := HQX.out.cell 1
              have y2 := HQX.out.cell 2
              have y3 := HQX.out.cell 3
              have y4 := HQX.out.cell 4
              have y5 := HQX.out.cell 5
              have y6 := HQX.out.cell 6
              have yf := HQX.out.frozen
              simp only [List.getElem?_toArray, List.getElem?_cons_zero, List.getElem?_cons_succ] at y0 y1 y2 y3 y4 y5 y6
              go_wp2_with (at_builtin; (refine wpList_append_own _ rfl _ _ 35 rfl w.heap.size 42 i0 (.agg t0C) 7 48 Tryz.underlying35 hti htz0 htz1 htz2 rfl (by decide) _ _ _ rfl (HROWX.out.alloc _) ⟨wx.heap.size, 0, none⟩ 1 1 [.int .i64 tk, .int .i64 tf, .int .i64 til, .string tn, .int .i32 tr, .bool ts, .bool false] rfl rfl (World.news_of_block (heap_alloc_new wx _)) (by simp [Value.oneCell']) (by unfold maxLen; omega) (by omega) (by simp; omega) ?_); intro v' w9 hown' hgrow _; obtain ⟨g', cap', rfl⟩ := ownsRow_succ hown'; (have hcs : w9.cell? ⟨q, 2, none⟩ = some (.int .i64 til) := (hgrow.cell_far ⟨q, 2, none⟩ (by show q < _; rw [World.size_alloc]; omega) (fun e => Nat.lt_irrefl _ (HNE.out _ e.symm))).trans (((HQX.out.alloc _).cell 2).trans rfl)))
              have HBN := hid ((HBX.out.alloc HBX.out.size _).grown hgrow (by have := HBX.out.size; simp; omega) (fun k e => (HROWX.out.lt k e).1))
              go_roundg (n - til)
              case measure => omega
              case rel => exact ⟨til, ln + 1, cap', some ⟨g', 0, none⟩, tn, l ++ [⟨tk, tf, til, tn, tr, ts⟩], rfl, rfl, rfl, by omega, Nat.le_refl _, by omega, by show _ = _; rw [List.length_append, List.length_singleton, HLN.out], by show World.ownsRow _ _ _ _ _ _ _; rw [tdCells_snoc]; exact hown', ⟨f, by omega, HNY.out⟩, .inr (HRN.out (by first | rfl | trivial)), HBN.out⟩

      · have hnp : 0 < nm.size := by
          rcases HNM.out with h | h | h
          · exact absurd h hn0
          · rw [h]; decide
          · rw [h]; decide
        have hnl : nm.size ≤ 1000000 := by
          rcases HNM.out with h | h | h <;> rw [h] <;> decide
        have HEND := hid (HEN.out wr HB.out i hlt nm hnl)
        have hnt : ¬ nm.toList = [] := fun e => by
          have : nm.size = 0 := by
            have := congrArg List.length e
            rw [Lib.toList_data] at this
            exact this
          omega
        have hntb : (nm.toList == []) = false := by simpa using hnt
        have hntb2 : (nm.toList != []) = true := by simpa using hnt
        cases hc : closesB s nm i
        · have hraw := refF_raw his (by omega) hc l f
          rw [hF0] at hraw
          rw [hc] at HEND
          have hre1 := scanTo_ge (closesB s nm) s.size (i + 1)
          have hre2 : i < rawE s nm i := by
            have : rawE s nm i = scanTo (closesB s nm) s.size (i + 1) := scanTo_step his hc
            omega
          have hre3 := scanTo_le (closesB s nm) (n := s.size) (i := i) (by omega)
          have HRAW := hid hraw
          have HRB := hid (And.intro hre2 (show rawE s nm i ≤ n by rw [HNS.out]; exact hre3))
          have HSC := hid (show rawE s nm i = scanTo (closesB s nm) s.size i from rfl)
          generalize rawE s nm i = re at *
          clear hF0 hc hre1 hre2 hre3 hraw hn0
          go_wp2_with fail
          refine HEND.out.mono ?_
          rintro e w1 ⟨rfl, hb1⟩
          have HB1 := hid (HB.out.trans (hb1.mono hszr))
          have HROW1 := hid (owns_below HROW.out hb1)
          have hs1 := HB1.out.size
          have hkx := Blk.new w1 42 (tC 7 i i ⟨#[]⟩ 0 false false)
          have hbx := HB1.out.alloc hs1 (.cells (tC 7 i i ⟨#[]⟩ 0 false false) 42)
          have hrx := HROW1.out.alloc (.cells (tC 7 i i ⟨#[]⟩ 0 false false) 42)
          have HQ0 := hid hkx
          have HBX := hid hbx
          have HRX := hid hrx
          have hq := hkx.lt
          simp only [tC] at HQ0 HBX HRX
          clear hb1 hkx hbx hrx HEND HROW
          go_upto_region 7 with fail
          generalize hw5 : w1.alloc (.cells #[.int .i64 7, .int .i64 i, .int .i64 i, .string ⟨#[]⟩, .int .i32 0, .bool false, .bool false] 42) = w5 at *
          have hqs : w1.heap.size < w5.heap.size := HQ0.out.lt
          have HNE := hid (fun k (e : (Value.slice A ln c).ownBlock = some k) => (HROW1.out.lt k e).2)
          have hwq : w.heap.size ≤ w1.heap.size := hs1
          generalize w1.heap.size = q at *
          clear hw5 hs1 HROW1 HB1 hq
          go_loopg [] n (fun kx wx => ∃ j : Nat, i ≤ j ∧ j ≤ re ∧ n - j ≤ kx ∧ Hid (re = scanTo (closesB s nm) s.size j) ∧ Hid (Blk wx q 42 #[.int .i64 7, .int .i64 i, .int .i64 j, .string ⟨#[]⟩, .int .i32 0, .bool false, .bool false]) ∧ Hid (Below w.heap.size w wx) ∧ Hid (wx.ownsRow w.heap.size 42 7 (.slice A ln c) ln (tdCells l)))
          case atStart => exact ⟨i, Nat.le_refl _, by have := HRB.out; omega, by omega, HSC.out, HQ0.out, HBX.out, HRX.out⟩
          case round =>
            obtain ⟨j, hij, hjr, hgj, HS2, HQX, HBX, HROWX⟩ := hrel
            have hrbn := HRB.out.2
            have hqx := HQX.out.lt
            have hszx := HBX.out.size
            have y0 := HQX.out.cell 0
            have y1 := HQX.out.cell 1
            have y2 := HQX.out.cell 2
            have y3 := HQX.out.cell 3
            have y4 := HQX.out.cell 4
            have y5 := HQX.out.cell 5
            have y6 := HQX.out.cell 6
            have yf := HQX.out.frozen
            simp only [List.getElem?_toArray, List.getElem?_cons_zero, List.getElem?_cons_succ] at y0 y1 y2 y3 y4 y5 y6
            by_cases hjn : j < n
            · have hjn' : (j : Int) < (n : Int) := by omega
              have HE2 := hid (HEN.out wr HBX.out j hjn nm hnl)
              cases hcj : closesB s nm j
              · have hs3 := scanTo_step (p := closesB s nm) (n := s.size) (i := j) (by rw [← HNS.out]; exact hjn) hcj
                have HS3 := hid (HS2.out.trans hs3)
                have hjr2 : j + 1 ≤ re := by
                  have := scanTo_ge (closesB s nm) s.size (j + 1)
                  rw [← HS3.out] at this
                  exact this
                rw [hcj] at HE2
                clear hcj hs3
                go_wp2_with fail
                refine HE2.out.mono ?_
                rintro e w7 ⟨rfl, hb7⟩
                have HQ7 := hid (HQX.out.below hb7 hqx)
                have HB7 := hid (HBX.out.trans (hb7.mono hszx))
                have HR7 := hid (owns_below HROWX.out hb7)
                have z2 := HQ7.out.cell 2
                have zf := HQ7.out.frozen
                simp only [List.getElem?_toArray, List.getElem?_cons_zero, List.getElem?_cons_succ] at z2
                clear hb7 y0 y1 y2 y3 y4 y5 y6 yf
                go_wp2_with fail
                go_roundg (n - (j + 1))
                case measure => omega
                case rel =>
                  refine ⟨j + 1, by omega, hjr2, Nat.le_refl _, HS3.out, ?_, HB7.out.setCell (p := ⟨q, 2, none⟩) hwq _, own_kept HR7.out (grown_set _ q 2 _) (fun k hk e => by have := HNE.out k hk; injection e with e; omega)⟩
                  have := HQ7.out.set_ 2 (.int .i64 ((j + 1 : Nat) : Int))
                  show Blk _ _ _ _
                  simpa using this
              · obtain rfl : re = j := HS2.out.trans (scanTo_stop (by rw [← HNS.out]; exact hjn) hcj)
                rw [hcj] at HE2
                clear hcj
                go_wp2_with fail
                refine HE2.out.mono ?_
                rintro e w7 ⟨rfl, hb7⟩
                have HQ7 := hid (HQX.out.below hb7 hqx)
                have HB7 := hid (HBX.out.trans (hb7.mono hszx))
                have HR7 := hid (owns_below HROWX.out hb7)
                have z0 := HQ7.out.cell 0
                have z1 := HQ7.out.cell 1
                have z2 := HQ7.out.cell 2
                have z3 := HQ7.out.cell 3
                have z4 := HQ7.out.cell 4
                have z5 := HQ7.out.cell 5
                have z6 := HQ7.out.cell 6
                simp only [List.getElem?_toArray, List.getElem?_cons_zero, List.getElem?_cons_succ] at z0 z1 z2 z3 z4 z5 z6
                have hq7 := HQ7.out.lt
                have hre2 := HRB.out
                clear hb7 y0 y1 y2 y3 y4 y5 y6 yf
                go_wp2_with (at_builtin; (refine wpList_append_own _ rfl _ _ 35 rfl w.heap.size 42 i0 (.agg t0C) 7 48 Tryz.underlying35 hti htz0 htz1 htz2 rfl (by decide) _ _ _ rfl (HR7.out.alloc _) ⟨w7.heap.size, 0, none⟩ 1 1 [.int .i64 7, .int .i64 i, .int .i64 re, .string ⟨#[]⟩, .int .i32 0, .bool false, .bool false] rfl rfl (World.news_of_block (heap_alloc_new w7 _)) (by simp [Value.oneCell']) (by unfold maxLen; omega) (by omega) (by simp; omega) ?_); intro v' w9 hown' hgrow _; obtain ⟨g', cap', rfl⟩ := ownsRow_succ hown'; (have hcs : w9.cell? ⟨q, 2, none⟩ = some (.int .i64 re) := (hgrow.cell_far ⟨q, 2, none⟩ (by show q < _; rw [World.size_alloc]; omega) (fun e => Nat.lt_irrefl _ (HNE.out _ e.symm))).trans (((HQ7.out.alloc _).cell 2).trans rfl)))
                have HBN := hid ((HB7.out.alloc HB7.out.size _).grown hgrow (by have := HB7.out.size; simp; omega) (fun k e => (HR7.out.lt k e).1))
                go_roundg (n - re)
                case measure => omega
                case rel => exact ⟨re, ln + 1, cap', some ⟨g', 0, none⟩, noB, l ++ [rawTk i re], rfl, rfl, rfl, by omega, Nat.le_refl _, by omega, by show _ = _; rw [List.length_append, List.length_singleton, HLN.out], by show World.ownsRow _ _ _ _ _ _ _; rw [tdCells_snoc]; exact hown', ⟨f, by omega, HRAW.out.symm⟩, .inl rfl, HBN.out⟩
            · obtain rfl : j = n := by omega
              obtain rfl : re = j := HS2.out.trans (scanTo_end (by rw [← HNS.out]; exact Nat.le_refl _))
              have hre2 := HRB.out
              have hjn' : ¬ (re : Int) < (re : Int) := by omega
              clear hjn
              clear yf
              go_wp2_with (at_builtin; (refine wpList_append_own _ rfl _ _ 35 rfl w.heap.size 42 i0 (.agg t0C) 7 48 Tryz.underlying35 hti htz0 htz1 htz2 rfl (by decide) _ _ _ rfl (HROWX.out.alloc _) ⟨wr.heap.size, 0, none⟩ 1 1 [.int .i64 7, .int .i64 i, .int .i64 re, .string ⟨#[]⟩, .int .i32 0, .bool false, .bool false] rfl rfl (World.news_of_block (heap_alloc_new wr _)) (by simp [Value.oneCell']) (by unfold maxLen; omega) (by omega) (by simp; omega) ?_); intro v' w9 hown' hgrow _; obtain ⟨g', cap', rfl⟩ := ownsRow_succ hown'; (have hcs : w9.cell? ⟨q, 2, none⟩ = some (.int .i64 re) := (hgrow.cell_far ⟨q, 2, none⟩ (by show q < _; rw [World.size_alloc]; omega) (fun e => Nat.lt_irrefl _ (HNE.out _ e.symm))).trans (((HQX.out.alloc _).cell 2).trans rfl)))
              have HBN := hid ((HBX.out.alloc HBX.out.size _).grown hgrow (by have := HBX.out.size; simp; omega) (fun k e => (HROWX.out.lt k e).1))
              go_roundg (re - re)
              case measure => omega
              case rel => exact ⟨re, ln + 1, cap', some ⟨g', 0, none⟩, noB, l ++ [rawTk i re], rfl, rfl, rfl, by omega, Nat.le_refl _, by omega, by show _ = _; rw [List.length_append, List.length_singleton, HLN.out], by show World.ownsRow _ _ _ _ _ _ _; rw [tdCells_snoc]; exact hown', ⟨f, by omega, HRAW.out.symm⟩, .inl rfl, HBN.out⟩
        · have hshut := refF_shut his hc l f
          rw [hF0] at hshut
          have HF := hid hshut.symm
          rw [hc] at HEND
          clear hF0 hshut hc hn0
          go_wp2_with fail
          refine HEND.out.mono ?_
          rintro e w1 ⟨rfl, hb1⟩
          have HB1 := hid (HB.out.trans (hb1.mono hszr))
          have HROW1 := hid (owns_below HROW.out hb1)
          clear hb1 HEND HROW
          go_wp2_with fail
          refine (HBG.out _ HB1.out i hlt).mono ?_
          rintro e w2 ⟨t, cl, rfl, hnone, hsome, hb2⟩
          have HB2 := hid (HB1.out.trans (hb2.mono HB1.out.size))
          have HROW2 := hid (owns_below HROW1.out hb2)
          have HSOME := hid hsome
          have HNONE := hid hnone
          obtain ⟨tk, tf, tt, tn, tr, ts⟩ := t
          have HQ3 := hid (Blk.new w2 42 (tC tk tf tt tn tr ts cl))
          have HB3 := hid (HB2.out.alloc HB2.out.size (.cells (tC tk tf tt tn tr ts cl) 42))
          have HR3 := hid (HROW2.out.alloc (.cells (tC tk tf tt tn tr ts cl) 42))
          have HNE := hid (fun k (e : (Value.slice A ln c).ownBlock = some k) => (HROW2.out.lt k e).2)
          have hwq := HB2.out.size
          simp only [tC] at HQ3 HB3 HR3 HSOME HNONE ⊢
          clear hb2 hsome hnone
          go_upto_region 14 with fail
          generalize w2.alloc (.cells #[.int .i64 tk, .int .i64 tf, .int .i64 tt, .string tn, .int .i32 tr, .bool ts, .bool cl] 42) = w3 at *
          generalize w2.heap.size = q at *
          have y0 := HQ3.out.cell 0
          have y1 := HQ3.out.cell 1
          have y2 := HQ3.out.cell 2
          have y3 := HQ3.out.cell 3
          have y4 := HQ3.out.cell 4
          have y5 := HQ3.out.cell 5
          have y6 := HQ3.out.cell 6
          have yf := HQ3.out.frozen
          simp only [List.getElem?_toArray, List.getElem?_cons_zero, List.getElem?_cons_succ] at y0 y1 y2 y3 y4 y5 y6
          obtain ⟨i1, hi1e⟩ : ∃ i1, i1 = i + 1 := ⟨_, rfl⟩
          have HI1E := hid hi1e
          have hi1 : (i : Int) + 1 = (i1 : Int) := by omega
          have hi1n : i1 ≤ n := by omega
          have hi1l : i < i1 := by omega
          cases hs : specA s i with
          | none =>
            obtain rfl : tk = 0 := HNONE.out hs
            have hnx := refF_none his hs l f
            rw [HF.out, ← hi1e] at hnx
            have HNX := hid hnx
            clear hs hnx HSOME HNONE hi1e HF
            go_upto_region 16 with fail
            have HQ4 := hid (sSet7_blk2 (k := 0) (f := i) (t := i1) (nm := ⟨#[]⟩) (z := 0) (sg := false) (cl := false) HQ3.out)
            have HB4 := hid (sSet7_below (k := 0) (f := i) (t := i1) (nm := ⟨#[]⟩) (z := 0) (sg := false) (cl := false) hwq HB3.out)
            have HR4 := hid (sSet7_own (k := 0) (f := i) (t := i1) (nm := ⟨#[]⟩) (z := 0) (sg := false) (cl := false) HR3.out (fun k hk => HNE.out k hk))
            change Code.wp _ _ _ _ (sSet7 w3 q 0 i i1 ⟨#[]⟩ 0 false false)
            generalize sSet7 w3 q 0 i i1 ⟨#[]⟩ 0 false false = w4 at *
            simp only [tC] at HQ4
            clear y0 y1 y2 y3 y4 y5 y6 yf
            have y0 := HQ4.out.cell 0
            have y1 := HQ4.out.cell 1
            have y2 := HQ4.out.cell 2
            have y3 := HQ4.out.cell 3
            have y4 := HQ4.out.cell 4
            have y5 := HQ4.out.cell 5
            have y6 := HQ4.out.cell 6
            have yf := HQ4.out.frozen
            simp only [List.getElem?_toArray, List.getElem?_cons_zero, List.getElem?_cons_succ] at y0 y1 y2 y3 y4 y5 y6
            rcases List.eq_nil_or_concat l with hl | ⟨l', z, hl⟩
            · subst hl
              obtain rfl : ln = 0 := HLN.out
              have HNY := hid (show refF f s i1 noB ([] ++ [textTk i i1]) = toks s by rw [HNX.out, HI1E.out]; rfl)
              go_upto_region 23 with fail
              have HQX := hid (show Blk (w4.setCell ⟨q, 6, none⟩ (.bool false)) q 42 #[.int .i64 0, .int .i64 i, .int .i64 i1, .string ⟨#[]⟩, .int .i32 0, .bool false, .bool false] by have := HQ4.out.set_ 6 (.bool false); simpa using this)
              have HBX := hid (HB4.out.setCell (p := ⟨q, 6, none⟩) hwq (.bool false))
              have HROWX := hid (own_kept HR4.out (grown_set _ q 6 (.bool false)) (fun k hk e => by injection e with e; exact Nat.lt_irrefl _ (e ▸ HNE.out k hk)))
              generalize w4.setCell ⟨q, 6, none⟩ (.bool false) = wx at *
              have hqx := HQX.out.lt
              have hszx := HBX.out.size
              clear y0 y1 y2 y3 y4 y5 y6 yf
              have y0 := HQX.out.cell 0
              have y1 := HQX.out.cell 1
              have y2 := HQX.out.cell 2
              have y3 := HQX.out.cell 3
              have y4 := HQX.out.cell 4
              have y5 := HQX.out.cell 5
              have y6 := HQX.out.cell 6
              have yf := HQX.out.frozen
              simp only [List.getElem?_toArray, List.getElem?_cons_zero, List.getElem?_cons_succ] at y0 y1 y2 y3 y4 y5 y6
              go_wp2_with (at_builtin; (refine wpList_append_own _ rfl _ _ 35 rfl w.heap.size 42 i0 (.agg t0C) 7 48 Tryz.underlying35 hti htz0 htz1 htz2 rfl (by decide) _ _ _ rfl (HROWX.out.alloc _) ⟨wx.heap.size, 0, none⟩ 1 1 [.int .i64 0, .int .i64 i, .int .i64 i1, .string ⟨#[]⟩, .int .i32 0, .bool false, .bool false] rfl rfl (World.news_of_block (heap_alloc_new wx _)) (by simp [Value.oneCell']) (by unfold maxLen; omega) (by omega) (by simp; omega) ?_); intro v' w9 hown' hgrow _; obtain ⟨g', cap', rfl⟩ := ownsRow_succ hown'; (have hcs : w9.cell? ⟨q, 2, none⟩ = some (.int .i64 i1) := (hgrow.cell_far ⟨q, 2, none⟩ (by show q < _; rw [World.size_alloc]; omega) (fun e => Nat.lt_irrefl _ (HNE.out _ e.symm))).trans (((HQX.out.alloc _).cell 2).trans rfl)))
              have HBN := hid ((HBX.out.alloc HBX.out.size _).grown hgrow (by have := HBX.out.size; simp; omega) (fun k e => (HROWX.out.lt k e).1))
              go_roundg (n - i1)
              case measure => omega
              case rel => exact ⟨i1, 0 + 1, cap', some ⟨g', 0, none⟩, noB, [] ++ [textTk i i1], rfl, rfl, rfl, by omega, Nat.le_refl _, by omega, by show _ = _; rw [List.length_append, List.length_singleton, HLN.out], by show World.ownsRow _ _ _ _ _ _ _; rw [tdCells_snoc]; exact hown', ⟨f, by omega, HNY.out⟩, .inl rfl, HBN.out⟩
            · rw [List.concat_eq_append] at hl
              subst hl
              obtain ⟨lm, hlm⟩ : ∃ lm, lm = l'.length := ⟨_, rfl⟩
              have hln : ln = lm + 1 := by rw [HLN.out, hlm]; simp
              have hro := HR4.out
              rw [hln, hlm] at hro
              obtain ⟨g, rfl, hgl, hcc, z0, z1, hro2⟩ := last_cells hro
              rw [← hlm] at z0 z1 hro2 hcc
              have hm1 : (ln : Int) - 1 = (lm : Int) := by omega
              have hm2 : (0 : Int) < (ln : Int) := by omega
              have hm3 : (lm : Int) < (ln : Int) := by omega
              have hgq : g ≠ q := fun e => Nat.lt_irrefl _ (e ▸ HNE.out g rfl)
              have hsl := slice_head7 g ln c lm (by omega) (by omega)
              have HRL := hid hro2
              have HLM := hid hlm
              have HLN2 := hid hln
              have hln6 : lm + 1 ≤ i := by omega
              clear hro hro2 hlm hln
              by_cases hz0 : z.kind = 0
              · have HNY := hid (show refF f s i1 noB (l' ++ [textTk z.fr i1]) = toks s by rw [HNX.out, HI1E.out]; unfold addT; rw [List.getLast?_concat]; simp only; rw [if_pos hz0, List.dropLast_concat])
                rw [hz0] at z0
                generalize z.fr = zf at *
                clear hz0
                go_upto_region 19 with fail
                have HQ5 := hid (show Blk (w4.setCell ⟨q, 1, none⟩ (.int .i64 zf)) q 42 #[.int .i64 0, .int .i64 zf, .int .i64 i1, .string ⟨#[]⟩, .int .i32 0, .bool false, .bool false] by have := HQ4.out.set_ 1 (.int .i64 zf); simpa using this)
                have HB5 := hid (HB4.out.setCell (p := ⟨q, 1, none⟩) hwq (.int .i64 zf))
                have HR5 := hid (own_kept HRL.out (grown_set _ q 1 (.int .i64 zf)) (fun k hk e => by injection e with e; exact Nat.lt_irrefl _ (e ▸ HNE.out k hk)))
                generalize w4.setCell ⟨q, 1, none⟩ (.int .i64 zf) = w5 at *
                clear y0 y1 y2 y3 y4 y5 y6 yf z0 z1
                have y0 := HQ5.out.cell 0
                have y1 := HQ5.out.cell 1
                have y2 := HQ5.out.cell 2
                have y3 := HQ5.out.cell 3
                have y4 := HQ5.out.cell 4
                have y5 := HQ5.out.cell 5
                have y6 := HQ5.out.cell 6
                have yf := HQ5.out.frozen
                simp only [List.getElem?_toArray, List.getElem?_cons_zero, List.getElem?_cons_succ] at y0 y1 y2 y3 y4 y5 y6
                go_upto_region 23 with fail
                have HQX := hid (show Blk (w5.setCell ⟨q, 6, none⟩ (.bool false)) q 42 #[.int .i64 0, .int .i64 zf, .int .i64 i1, .string ⟨#[]⟩, .int .i32 0, .bool false, .bool false] by have := HQ5.out.set_ 6 (.bool false); simpa using this)
                have HBX := hid (HB5.out.setCell (p := ⟨q, 6, none⟩) hwq (.bool false))
                have HROWX := hid (own_kept HR5.out (grown_set _ q 6 (.bool false)) (fun k hk e => by injection e with e; exact Nat.lt_irrefl _ (e ▸ HNE.out k hk)))
                generalize w5.setCell ⟨q, 6, none⟩ (.bool false) = wx at *
                have hqx := HQX.out.lt
                have hszx := HBX.out.size
                clear y0 y1 y2 y3 y4 y5 y6 yf
                have y0 := HQX.out.cell 0
                have y1 := HQX.out.cell 1
                have y2 := HQX.out.cell 2
                have y3 := HQX.out.cell 3
                have y4 := HQX.out.cell 4
                have y5 := HQX.out.cell 5
                have y6 := HQX.out.cell 6
                have yf := HQX.out.frozen
                simp only [List.getElem?_toArray, List.getElem?_cons_zero, List.getElem?_cons_succ] at y0 y1 y2 y3 y4 y5 y6
                go_wp2_with (at_builtin; (refine wpList_append_own _ rfl _ _ 35 rfl w.heap.size 42 i0 (.agg t0C) 7 48 Tryz.underlying35 hti htz0 htz1 htz2 rfl (by decide) _ _ _ rfl (HROWX.out.alloc _) ⟨wx.heap.size, 0, none⟩ 1 1 [.int .i64 0, .int .i64 zf, .int .i64 i1, .string ⟨#[]⟩, .int .i32 0, .bool false, .bool false] rfl rfl (World.news_of_block (heap_alloc_new wx _)) (by simp [Value.oneCell']) (by unfold maxLen; omega) (by omega) (by simp; omega) ?_); intro v' w9 hown' hgrow _; obtain ⟨g', cap', rfl⟩ := ownsRow_succ hown'; (have hcs : w9.cell? ⟨q, 2, none⟩ = some (.int .i64 i1) := (hgrow.cell_far ⟨q, 2, none⟩ (by show q < _; rw [World.size_alloc]; omega) (fun e => Nat.lt_irrefl _ (HNE.out _ e.symm))).trans (((HQX.out.alloc _).cell 2).trans rfl)))
                have HBN := hid ((HBX.out.alloc HBX.out.size _).grown hgrow (by have := HBX.out.size; simp; omega) (fun k e => (HROWX.out.lt k e).1))
                go_roundg (n - i1)
                case measure => omega
                case rel => exact ⟨i1, lm + 1, cap', some ⟨g', 0, none⟩, noB, l' ++ [textTk zf i1], rfl, rfl, rfl, by omega, Nat.le_refl _, by omega, by show _ = _; rw [List.length_append, List.length_singleton, HLM.out], by show World.ownsRow _ _ _ _ _ _ _; rw [tdCells_snoc]; exact hown', ⟨f, by omega, HNY.out⟩, .inl rfl, HBN.out⟩
              · have HNY := hid (show refF f s i1 noB (l' ++ [z] ++ [textTk i i1]) = toks s by rw [HNX.out, HI1E.out]; unfold addT; rw [List.getLast?_concat]; simp only; rw [if_neg hz0])
                have hz0b : (z.kind == 0) = false := by simpa using hz0
                generalize z.kind = zk at *
                clear hz0
                go_upto_region 23 with fail
                have HQX := hid (show Blk (w4.setCell ⟨q, 6, none⟩ (.bool false)) q 42 #[.int .i64 0, .int .i64 i, .int .i64 i1, .string ⟨#[]⟩, .int .i32 0, .bool false, .bool false] by have := HQ4.out.set_ 6 (.bool false); simpa using this)
                have HBX := hid (HB4.out.setCell (p := ⟨q, 6, none⟩) hwq (.bool false))
                have HROWX := hid (own_kept HR4.out (grown_set _ q 6 (.bool false)) (fun k hk e => by injection e with e; exact Nat.lt_irrefl _ (e ▸ HNE.out k hk)))
                generalize w4.setCell ⟨q, 6, none⟩ (.bool false) = wx at *
                have hqx := HQX.out.lt
                have hszx := HBX.out.size
                clear y0 y1 y2 y3 y4 y5 y6 yf
                have y0 := HQX.out.cell 0
                have y1 := HQX.out.cell 1
                have y2 := HQX.out.cell 2
                have y3 := HQX.out.cell 3
                have y4 := HQX.out.cell 4
                have y5 := HQX.out.cell 5
                have y6 := HQX.out.cell 6
                have yf := HQX.out.frozen
                simp only [List.getElem?_toArray, List.getElem?_cons_zero, List.getElem?_cons_succ] at y0 y1 y2 y3 y4 y5 y6
                go_wp2_with (at_builtin; (refine wpList_append_own _ rfl _ _ 35 rfl w.heap.size 42 i0 (.agg t0C) 7 48 Tryz.underlying35 hti htz0 htz1 htz2 rfl (by decide) _ _ _ rfl (HROWX.out.alloc _) ⟨wx.heap.size, 0, none⟩ 1 1 [.int .i64 0, .int .i64 i, .int .i64 i1, .string ⟨#[]⟩, .int .i32 0, .bool false, .bool false] rfl rfl (World.news_of_block (heap_alloc_new wx _)) (by simp [Value.oneCell']) (by unfold maxLen; omega) (by omega) (by simp; omega) ?_); intro v' w9 hown' hgrow _; obtain ⟨g', cap', rfl⟩ := ownsRow_succ hown'; (have hcs : w9.cell? ⟨q, 2, none⟩ = some (.int .i64 i1) := (hgrow.cell_far ⟨q, 2, none⟩ (by show q < _; rw [World.size_alloc]; omega) (fun e => Nat.lt_irrefl _ (HNE.out _ e.symm))).trans (((HQX.out.alloc _).cell 2).trans rfl)))
                have HBN := hid ((HBX.out.alloc HBX.out.size _).grown hgrow (by have := HBX.out.size; simp; omega) (fun k e => (HROWX.out.lt k e).1))
                go_roundg (n - i1)
                case measure => omega
                case rel => exact ⟨i1, ln + 1, cap', some ⟨g', 0, none⟩, noB, (l' ++ [z]) ++ [textTk i i1], rfl, rfl, rfl, by omega, Nat.le_refl _, by omega, by show _ = _; rw [List.length_append, List.length_singleton, HLN.out], by show World.ownsRow _ _ _ _ _ _ _; rw [tdCells_snoc]; exact hown', ⟨f, by omega, HNY.out⟩, .inl rfl, HBN.out⟩
          | some sp =>
            obtain ⟨he, hraw⟩ := HSOME.out sp hs
            have hbd := specA_bd hs
            have hnx := refF_some his hs l f
            rw [HF.out] at hnx
            have hrn := fun h => (specA_raw hs h).2
            obtain ⟨kd, sz, nm', r, sg, raw⟩ := sp
            simp only [spTk, Tk.mk.injEq] at he
            obtain ⟨rfl, rfl, rfl, rfl, rfl, rfl⟩ := he
            obtain ⟨til, htil⟩ : ∃ til, til = tf + sz := ⟨_, rfl⟩
            simp only at hraw hbd hnx hrn
            have hspk : spTk tf ⟨tk, sz, tn, tr, ts, raw⟩ = ⟨tk, tf, til, tn, tr, ts⟩ := by rw [htil]; rfl
            rw [hspk, ← htil] at hnx
            have hk0 : ¬ tk = 0 := by omega
            have hk0b : (tk == 0) = false := by simpa using hk0
            have htn : til ≤ n := by have := HNS.out; omega
            have htl : tf < til := by omega
            rw [← htil] at HQ3 y2
            have HNX := hid hnx
            have HRN := hid hrn
            have HRAW := hid hraw
            clear hs hnx hrn HSOME HNONE hi1e hi1 hi1n hi1l HF hk0 hraw hbd hspk htil
            go_upto_region 20 with fail
            go_cut [103] (fun s103 wx => s103 = .bool raw ∧ wx = w3)
            case first =>
              by_cases hk2 : tk = 2
              · subst hk2
                cases cl
                · have HR := hid (show raw = false by rw [← HRAW.out]; rfl)
                  go_wp2_with fail
                  go_meet
                  exact ⟨by rw [HR.out], rfl⟩
                · cases ts
                  · by_cases hs1 : tn = scriptB
                    · have HR := hid (show raw = true by rw [← HRAW.out, hs1]; rfl)
                      subst hs1
                      unfold scriptB at *
                      go_wp2_with fail
                      go_meet
                      exact ⟨by rw [HR.out], rfl⟩
                    · have n1 : ¬ tn.toList = [115, 99, 114, 105, 112, 116] := fun h => hs1 (by
                        rw [Lib.toList_data] at h
                        exact ByteArray.ext (Array.toList_inj.1 (h.trans rfl)))
                      have n1b : (tn.toList == [115, 99, 114, 105, 112, 116]) = false := by simpa using n1
                      by_cases hs2 : tn = styleB
                      · have HR := hid (show raw = true by rw [← HRAW.out, hs2]; rfl)
                        subst hs2
                        clear hs1
                        unfold styleB at *
                        go_wp2_with fail
                        go_meet
                        exact ⟨by rw [HR.out], rfl⟩
                      · have n2 : ¬ tn.toList = [115, 116, 121, 108, 101] := fun h => hs2 (by
                          rw [Lib.toList_data] at h
                          exact ByteArray.ext (Array.toList_inj.1 (h.trans rfl)))
                        have n2b : (tn.toList == [115, 116, 121, 108, 101]) = false := by simpa using n2
                        have HR := hid (show raw = false by rw [← HRAW.out]; unfold rawsB; rw [decide_eq_false hs1, decide_eq_false hs2]; rfl)
                        clear hs1 hs2
                        go_wp2_with fail
                        go_meet
                        exact ⟨by rw [HR.out], rfl⟩
                  · have HR := hid (show raw = false by rw [← HRAW.out]; rfl)
                    go_wp2_with fail
                    go_meet
                    exact ⟨by rw [HR.out], rfl⟩
              · have hk2b : (tk == 2) = false := by simpa using hk2
                have HR := hid (show raw = false by rw [← HRAW.out, decide_eq_false hk2]; rfl)
                clear hk2
                go_wp2_with fail
                go_meet
                exact ⟨by rw [HR.out], rfl⟩
            case rest =>
              obtain ⟨rfl, hwx⟩ := hcut
              obtain rfl : w3 = _ := hwx.symm
              cases raw
              · have HNY := hid (show refF f s til noB (l ++ [⟨tk, tf, til, tn, tr, ts⟩]) = toks s by rw [HNX.out]; rfl)
                go_upto_region 23 with fail
                have HQX := hid (show Blk (w3.setCell ⟨q, 6, none⟩ (.bool false)) q 42 #[.int .i64 tk, .int .i64 tf, .int .i64 til, .string tn, .int .i32 tr, .bool ts, .bool false] by have := HQ3.out.set_ 6 (.bool false); simpa using this)
                have HBX := hid (HB3.out.setCell (p := ⟨q, 6, none⟩) hwq (.bool false))
                have HROWX := hid (own_kept HR3.out (grown_set _ q 6 (.bool false)) (fun k hk e => by injection e with e; exact Nat.lt_irrefl _ (e ▸ HNE.out k hk)))
                generalize w3.setCell ⟨q, 6, none⟩ (.bool false) = wx at *
                have hqx := HQX.out.lt
                have hszx := HBX.out.size
                clear y0 y1 y2 y3 y4 y5 y6 yf
                have y0 := HQX.out.cell 0
                have y1 := HQX.out.cell 1
                have y2 := HQX.out.cell 2
                have y3 := HQX.out.cell 3
                have y4 := HQX.out.cell 4
                have y5 := HQX.out.cell 5
                have y6 := HQX.out.cell 6
                have yf := HQX.out.frozen
                simp only [List.getElem?_toArray, List.getElem?_cons_zero, List.getElem?_cons_succ] at y0 y1 y2 y3 y4 y5 y6
                go_wp2_with (at_builtin; (refine wpList_append_own _ rfl _ _ 35 rfl w.heap.size 42 i0 (.agg t0C) 7 48 Tryz.underlying35 hti htz0 htz1 htz2 rfl (by decide) _ _ _ rfl (HROWX.out.alloc _) ⟨wx.heap.size, 0, none⟩ 1 1 [.int .i64 tk, .int .i64 tf, .int .i64 til, .string tn, .int .i32 tr, .bool ts, .bool false] rfl rfl (World.news_of_block (heap_alloc_new wx _)) (by simp [Value.oneCell']) (by unfold maxLen; omega) (by omega) (by simp; omega) ?_); intro v' w9 hown' hgrow _; obtain ⟨g', cap', rfl⟩ := ownsRow_succ hown'; (have hcs : w9.cell? ⟨q, 2, none⟩ = some (.int .i64 til) := (hgrow.cell_far ⟨q, 2, none⟩ (by show q < _; rw [World.size_alloc]; omega) (fun e => Nat.lt_irrefl _ (HNE.out _ e.symm))).trans (((HQX.out.alloc _).cell 2).trans rfl)))
                have HBN := hid ((HBX.out.alloc HBX.out.size _).grown hgrow (by have := HBX.out.size; simp; omega) (fun k e => (HROWX.out.lt k e).1))
                go_roundg (n - til)
                case measure => omega
                case rel => exact ⟨til, ln + 1, cap', some ⟨g', 0, none⟩, noB, l ++ [⟨tk, tf, til, tn, tr, ts⟩], rfl, rfl, rfl, by omega, Nat.le_refl _, by omega, by show _ = _; rw [List.length_append, List.length_singleton, HLN.out], by show World.ownsRow _ _ _ _ _ _ _; rw [tdCells_snoc]; exact hown', ⟨f, by omega, HNY.out⟩, .inl rfl, HBN.out⟩
              · have HNY := hid (show refF f s til tn (l ++ [⟨tk, tf, til, tn, tr, ts⟩]) = toks s by rw [HNX.out]; rfl)
                go_upto_region 23 with fail
                have HQX := hid (show Blk (w3.setCell ⟨q, 6, none⟩ (.bool false)) q 42 #[.int .i64 tk, .int .i64 tf, .int .i64 til, .string tn, .int .i32 tr, .bool ts, .bool false] by have := HQ3.out.set_ 6 (.bool false); simpa using this)
                have HBX := hid (HB3.out.setCell (p := ⟨q, 6, none⟩) hwq (.bool false))
                have HROWX := hid (own_kept HR3.out (grown_set _ q 6 (.bool false)) (fun k hk e => by injection e with e; exact Nat.lt_irrefl _ (e ▸ HNE.out k hk)))
                generalize w3.setCell ⟨q, 6, none⟩ (.bool false) = wx at *
                have hqx := HQX.out.lt
                have hszx := HBX.out.size
                clear y0 y1 y2 y3 y4 y5 y6 yf
                have y0 := HQX.out.cell 0
                have y1 := HQX.out.cell 1
                have y2 := HQX.out.cell 2
                have y3 := HQX.out.cell 3
                have y4 := HQX.out.cell 4
                have y5 := HQX.out.cell 5
                have y6 := HQX.out.cell 6
                have yf := HQX.out.frozen
                simp only [List.getElem?_toArray, List.getElem?_cons_zero, List.getElem?_cons_succ] at y0 y1 y2 y3 y4 y5 y6
                go_wp2_with (at_builtin; (refine wpList_append_own _ rfl _ _ 35 rfl w.heap.size 42 i0 (.agg t0C) 7 48 Tryz.underlying35 hti htz0 htz1 htz2 rfl (by decide) _ _ _ rfl (HROWX.out.alloc _) ⟨wx.heap.size, 0, none⟩ 1 1 [.int .i64 tk, .int .i64 tf, .int .i64 til, .string tn, .int .i32 tr, .bool ts, .bool false] rfl rfl (World.news_of_block (heap_alloc_new wx _)) (by simp [Value.oneCell']) (by unfold maxLen; omega) (by omega) (by simp; omega) ?_); intro v' w9 hown' hgrow _; obtain ⟨g', cap', rfl⟩ := ownsRow_succ hown'; (have hcs : w9.cell? ⟨q, 2, none⟩ = some (.int .i64 til) := (hgrow.cell_far ⟨q, 2, none⟩ (by show q < _; rw [World.size_alloc]; omega) (fun e => Nat.lt_irrefl _ (HNE.out _ e.symm))).trans (((HQX.out.alloc _).cell 2).trans rfl)))
                have HBN := hid ((HBX.out.alloc HBX.out.size _).grown hgrow (by have := HBX.out.size; simp; omega) (fun k e => (HROWX.out.lt k e).1))
                go_roundg (n - til)
                case measure => omega
                case rel => exact ⟨til, ln + 1, cap', some ⟨g', 0, none⟩, tn, l ++ [⟨tk, tf, til, tn, tr, ts⟩], rfl, rfl, rfl, by omega, Nat.le_refl _, by omega, by show _ = _; rw [List.length_append, List.length_singleton, HLN.out], by show World.ownsRow _ _ _ _ _ _ _; rw [tdCells_snoc]; exact hown', ⟨f, by omega, HNY.out⟩, .inr (HRN.out (by first | rfl | trivial)), HBN.out⟩
    · have hlt' : ¬ (i : Int) < (n : Int) := by omega
      obtain ⟨f0, hf0, hF0⟩ := HF.out
      rw [refF_end (by rw [← HNS.out]; omega)] at hF0
      have HFIN := hid (show MadeD w.heap.size wr (.slice A ln c) (toks s) by
        rw [← hF0]
        have := HROW.out
        rw [HLN.out] at this ⊢
        exact this)
      clear hlt hg hF0 hf0 HF
      go_wp2_with fail
      go_ret
      exact ⟨_, rfl, HFIN.out, HB.out⟩
end Go.Proofs.YtpnbkecchfhimaaGreatDoor
