/- Chapter 18: the mark at a place: the walk. -/
import Derived.Test.YtpkbmgpbagdalaaTagU2
import Derived.Lib.SlBytesConst
namespace Go.Proofs.Ytpkbmgpbagdalaa
open Go.RowKit
open Go.Lib (hid)
set_option linter.unusedVariables false

def mk0 : Mk := ⟨0, 0, ⟨#[]⟩, [], false, false⟩
def comB : ByteArray := ⟨#[60, 33, 45, 45]⟩
def comE : ByteArray := ⟨#[45, 45, 62]⟩
def gtE : ByteArray := ⟨#[62]⟩
/-- Does a comment begin here? -/
def isCom (t : ByteArray) : Bool := Lib.hasPrefix t.data.toList comB.data.toList
/-- The mark with which bytes begin whose first one is <. -/
def headV (t : ByteArray) : Mk × Bool :=
  if isCom t = true then (upToV t 4 2 comE, true)
  else if byt t 1 = 47 ∧ 2 < t.size ∧ letterB (byt t 2) = true then (namedV t 2 1, true)
  else if byt t 1 = 33 ∨ byt t 1 = 63 ∨ byt t 1 = 47 then (upToV t 2 3 gtE, true)
  else if letterB (byt t 1) = true then (namedV t 1 0, true)
  else (mk0, false)
def readV (s : ByteArray) (at_ : Int) : Mk × Bool :=
  if at_ < 0 ∨ (s.size : Int) - 1 ≤ at_ ∨ byt s at_.toNat ≠ 60 then (mk0, false) else headV (s.extract at_.toNat s.size)

theorem results_row_tmp {P : Program} {fn : Func} {p u : Tmp} {ty : TypeId} (h : fn.results = #[.cell p ty, .tmp u]) (tmps : Array Value) (w : World) (g : Nat) (t : TypeId) (cs : Array Value) (fr : Nat × Nat) (d : TypeDesc)
    (hp : tmps.getD p undef = .pointer (some ⟨g, 0, none⟩)) (hg : w.heap[g]? = some (.cells cs t fr))
    (hu : P.underlying ty = some d) (hd : (match d with | .struct _ | .array _ _ => true | _ => false) = true) (hi : (P.info? ty).map (·.size) = some cs.size) :
    (results fn tmps).run P w = .ok (.tuple #[.agg cs, tmps.getD u undef]) w := by
  have hp' : tmps[p]?.getD undef = .pointer (some ⟨g, 0, none⟩) := by simpa using hp
  simp [results, h, hp', asAddr, run_loadVar_row w g t ty cs fr d hg hu hd hi]

theorem upToV_attrs (s : ByteArray) (i : Nat) (kd : Int) (e : ByteArray) : (upToV s i kd e).attrs = [] := by
  unfold upToV
  split <;> rfl

/-- A result's cells, stored one by one. -/
def set6 (w : World) (r : Nat) (M : Mk) (v : Value) : World :=
  (((((w.setCell ⟨r, 0, none⟩ (.int .i64 M.kind)).setCell ⟨r, 1, none⟩ (.int .i64 M.size)).setCell ⟨r, 2, none⟩ (.string M.name)).setCell ⟨r, 3, none⟩ v).setCell ⟨r, 4, none⟩ (.bool M.single)).setCell ⟨r, 5, none⟩ (.bool M.closed)
theorem set6_blk {w : World} {r : Nat} {M : Mk} {v : Value} (h : Blk w r 26 tag0) : Blk (set6 w r M v) r 26 #[.int .i64 M.kind, .int .i64 M.size, .string M.name, v, .bool M.single, .bool M.closed] := by
  have := (((((h.set_ 0 (.int .i64 M.kind)).set_ 1 (.int .i64 M.size)).set_ 2 (.string M.name)).set_ 3 v).set_ 4 (.bool M.single)).set_ 5 (.bool M.closed)
  show Blk _ _ _ _
  unfold set6
  simpa [tag0] using this
theorem set6_below {w w0 : World} {B r : Nat} {M : Mk} {v : Value} (hB : B ≤ r) (h : Below B w0 w) : Below B w0 (set6 w r M v) :=
  ((((((h.setCell (p := ⟨r, 0, none⟩) hB (.int .i64 M.kind)).setCell (p := ⟨r, 1, none⟩) hB (.int .i64 M.size)).setCell (p := ⟨r, 2, none⟩) hB (.string M.name)).setCell (p := ⟨r, 3, none⟩) hB v).setCell (p := ⟨r, 4, none⟩) hB (.bool M.single)).setCell (p := ⟨r, 5, none⟩) hB (.bool M.closed))
theorem set6_own {w : World} {B r n : Nat} {M : Mk} {v : Value} {xs : List Value} (hb : Blk w r 26 tag0) (h : w.ownsRow B 38 2 v n xs) : (set6 w r M v).ownsRow B 38 2 v n xs := by
  have hr : ∀ k, v.ownBlock = some k → some r ≠ some k := fun k hk e => own_blk_ne h hb (by decide) (hk.trans e.symm)
  exact own_kept (own_kept (own_kept (own_kept (own_kept (own_kept h (grown_set _ r 0 _) hr) (grown_set _ r 1 _) hr) (grown_set _ r 2 _) hr) (grown_set _ r 3 _) hr) (grown_set _ r 4 _) hr) (grown_set _ r 5 _) hr

theorem prefix_any (b o n c q d : Nat) (t : ByteArray) (w : World) (hn : n = t.size) (hnc : n ≤ c) (hz : Lib.Bytes w b o t) (hq : Lib.Bytes w q 0 comB) : Calls Try.prog 17 #[.slice (some ⟨b, o, none⟩) n c, .slice (some ⟨q, 0, none⟩) 4 d] w fun e w' => e = .returned (.bool (isCom t)) ∧ w' = w := by
  have h := Any.bytes_HasPrefix_all Try.laysb116 (some ⟨b, o, none⟩) (some ⟨q, 0, none⟩) n c 4 d (intsOf t) (intsOf comB) w (by rw [intsOf_len, hn]) (by rw [intsOf_len]; rfl) hnc
    (Lib.BytesIn.of_cells fun i hi => by rw [add_pl, intsOf_get]; exact bytes_cell hz (by omega)) (Lib.BytesIn.of_cells fun i hi => by rw [add_pl, intsOf_get]; exact bytes_cell hq (show i < comB.size from hi))
  rw [intsOf_bytes, intsOf_bytes] at h
  exact h

set_option maxRecDepth 100000 in
set_option maxHeartbeats 4000000 in
theorem head_walk (b off n cap i : Nat) (m : Int) (s : ByteArray) (hn : n = s.size) (hi : i + 1 < n) (hcap : n ≤ cap) (hc63 : cap ≤ 9223372036854775807)
    (hm : n ≤ 1048576) (w : World) (hbB : b < w.heap.size) (hz : Lib.Bytes w b off s) (hml : w.cell? ⟨0, 0, none⟩ = some (.int .i64 m)) (h60 : byt s i = 60) :
    Calls Try.prog 9 #[.slice (some ⟨b, off, none⟩) n cap, .int .i64 i] w fun e w' =>
      ∃ v, e = .returned (.tuple #[(headV (s.extract i s.size)).1.val v, .bool (headV (s.extract i s.size)).2]) ∧ Below w.heap.size w w' ∧ w'.ownsRow w.heap.size 38 2 v (headV (s.extract i s.size)).1.attrs.length (atCells (headV (s.extract i s.size)).1.attrs) := by
  have h0l : 0 < w.heap.size := by omega
  have hsl := fun W => slice_tail b off n cap i (by omega) hcap W
  simp only [show offIf cap i off = off + i by unfold offIf; rw [if_neg (by omega)]] at hsl
  have hcell := bytes_cell hz (i := i) (by omega)
  rw [h60] at hcell
  have hge : ¬ ((n : Int) - 1 ≤ (i : Int)) := by omega
  have HZ := hid hz
  have HN := hid hn
  have HML := hid hml
  clear hz hn hml
  go_enter Try.func9, Try.ntmps9
  go_wp2_with fail
  have hb0 := (Below.refl w.heap.size w).alloc (Nat.le_refl _) (.cells tag0 26)
  have hr0 := Blk.new w 26 tag0
  have hs0 : (w.alloc (.cells tag0 26)).heap.size = w.heap.size + 1 := by simp
  simp only [tag0] at hb0 hr0 hs0
  generalize w.alloc (.cells #[.int .i64 0, .int .i64 0, .string ⟨#[]⟩, .slice none 0 0, .bool false, .bool false] 26) = w1 at *
  have kc := Lib.run_convert_bytes_const (P := Try.prog) w1 22 5 #[.int .u8 60, .int .u8 33, .int .u8 45, .int .u8 45] 4 4 Try.underlying22 Try.underlying5
  have hc4 := fun i => cell_of_row _ w1.heap.size i _ _ _ (heap_alloc_new w1 (.cells #[.int .u8 60, .int .u8 33, .int .u8 45, .int .u8 45] 5 (4, 5)))
  have hb1 := hb0.alloc (by omega) (.cells #[.int .u8 60, .int .u8 33, .int .u8 45, .int .u8 45] 5 (4, 5))
  have hr1 := hr0.alloc (.cells #[.int .u8 60, .int .u8 33, .int .u8 45, .int .u8 45] 5 (4, 5))
  rw [hs0] at kc hc4
  rw [kc]
  simp only [List.size_toArray, List.length_cons, List.length_nil, Nat.reduceAdd]
  generalize hw2 : w1.alloc (.cells #[.int .u8 60, .int .u8 33, .int .u8 45, .int .u8 45] 5 (4, 5)) = w2 at *
  have hs2 : w2.heap.size = w.heap.size + 2 := by rw [← hw2]; simp [hs0]
  clear kc hw2
  go_wp2_with fail
  have hzt : Lib.Bytes w2 b (off + i) (s.extract i s.size) := by
    apply bytes_of_byt
    intro j hj
    rw [World.cell?_of_block (hb1.block b hbB)]
    have := bytes_tail HN.out hcap HZ.out j (i := i) (by rw [ByteArray.size_extract] at hj; have := HN.out; omega)
    rwa [show offIf cap i off = off + i by unfold offIf; rw [if_neg (by omega)]] at this
  have hzc : Lib.Bytes w2 (w.heap.size + 1) 0 comB := by
    apply bytes_of_byt
    intro j hj
    rw [Nat.zero_add, hc4 j]
    have : j = 0 ∨ j = 1 ∨ j = 2 ∨ j = 3 := by have : comB.size = 4 := rfl; omega
    rcases this with rfl | rfl | rfl | rfl <;> rfl
  have ht : n - i = (s.extract i s.size).size := by rw [ByteArray.size_extract]; have := HN.out; omega
  have hml2 : w2.cell? ⟨0, 0, none⟩ = some (.int .i64 m) := (hb1.cell (p := ⟨0, 0, none⟩) h0l).trans HML.out
  generalize hte : s.extract i s.size = t at *
  have HTE := hid hte
  clear hte
  refine (prefix_any b (off + i) (n - i) (cap - i) (w.heap.size + 1) 4 t w2 ht (by omega) hzt hzc).mono ?_
  rintro e w3 ⟨rfl, rfl⟩
  have hc1 := bytes_cell hzt (i := 1) (by omega)
  have hd1 := byt_nonneg t 1
  have HZT := hid hzt
  have HB1 := hid hb1
  have HR1 := hid hr1
  have hnb : b ≠ w.heap.size := by omega
  have HT := hid ht
  have HML2 := hid hml2
  have r0 := hr1.cell 0
  have r1 := hr1.cell 1
  have r2 := hr1.cell 2
  have r3 := hr1.cell 3
  have r4 := hr1.cell 4
  have r5 := hr1.cell 5
  have frr := hr1.frozen
  simp only [List.getElem?_toArray, List.getElem?_cons_zero, List.getElem?_cons_succ] at r0 r1 r2 r3 r4 r5
  clear hb0 hr0 hc4 hzc hzt hb1 hr1 hsl hml2 ht
  have hup := fun (k : Nat) (kd : Int) (e : ByteArray) (hk : k ≤ n - i) (he : 0 < e.size) (he2 : e.size ≤ 1000) =>
    upTo_any b (off + i) (n - i) (cap - i) k kd m e t HT.out hk (by omega) (by omega) he he2 (by omega) w3 (by omega) HZT.out HML2.out
  have hnm := fun (k : Nat) (kd : Int) (hk : k ≤ n - i) =>
    named_any b (off + i) (n - i) (cap - i) k kd t HT.out hk (by omega) (by omega) (by omega) w3 (by omega) HZT.out
  have HUP := hid hup
  have HNM := hid hnm
  clear hup hnm
  cases hcom : isCom t
  · have hnc : ¬ isCom t = true := by rw [hcom]; decide
    clear hcom
    by_cases h47 : byt t 1 = 47
    · by_cases h2 : 2 < n - i
      · have h2t : 2 < t.size := by have := HT.out; omega
        have hc2 := bytes_cell HZT.out (i := 2) h2t
        have h2i : (2 : Int) < ((n - i : Nat) : Int) := by omega
        cases hlt : letterB (byt t 2)
        · have HE := hid (show headV t = (upToV t 2 3 gtE, true) by unfold headV; rw [if_neg hnc, if_neg (fun h => by rw [hlt] at h; exact absurd h.2.2 (by decide)), if_pos (Or.inr (Or.inr h47))])
          have HL2 := hid (show ∀ W, Calls Try.prog 19 #[.int .u8 (byt t 2)] W fun e w' => e = .returned (.bool false) ∧ w' = W by intro W; have := letter_any (byt t 2) W; rwa [hlt] at this)
          rw [h47] at hc1 hd1
          generalize byt t 2 = c2 at *
          clear hnc h47 hlt
          go_wp2_with fail
          refine (HL2.out _).mono ?_
          rintro e w3' ⟨rfl, hw⟩
          obtain rfl : w3 = w3' := hw.symm
          go_wp2_with fail
          refine (HUP.out 2 3 gtE (by omega) (by decide) (by decide)).mono ?_
          rintro e w4 ⟨rfl, hb4⟩
          have hat := upToV_attrs t 2 3 gtE
          generalize upToV t 2 3 gtE = M at hat HE ⊢
          obtain ⟨kd, sz, nm, at_, sg, cl⟩ := M
          simp only at hat
          subst hat
          simp only [Mk.val]
          have hr4 := HR1.out.below hb4 (by omega)
          have q0 := hr4.cell 0
          have q1 := hr4.cell 1
          have q2 := hr4.cell 2
          have q3 := hr4.cell 3
          have q4 := hr4.cell 4
          have q5 := hr4.cell 5
          have frq := hr4.frozen
          simp only [List.getElem?_toArray, List.getElem?_cons_zero, List.getElem?_cons_succ] at q0 q1 q2 q3 q4 q5
          have hf := set6_blk (M := ⟨kd, sz, nm, [], sg, cl⟩) (v := .slice none 0 0) hr4
          have hB := set6_below (M := ⟨kd, sz, nm, [], sg, cl⟩) (v := .slice none 0 0) (Nat.le_refl w.heap.size) (HB1.out.trans (hb4.mono (by omega : w.heap.size ≤ w3.heap.size)))
          have HF := hid hf
          have HBF := hid hB
          clear hr4 hf hB hb4 r0 r1 r2 r3 r4 r5 frr
          go_wp2_with fail
          (try simp only [Exit.inBlock, Exit.then])
          rw [HTE.out, HE.out]
          exact bodyPost_ret (results_row_tmp rfl _ _ w.heap.size _ _ _ _ rfl HF.out Try.underlying26 rfl (by kernel_rfl)) rfl ⟨_, rfl, HBF.out, rfl, .inl ⟨rfl, rfl⟩⟩
        · have HE := hid (show headV t = (namedV t 2 1, true) by unfold headV; rw [if_neg hnc, if_pos ⟨h47, h2t, hlt⟩])
          have HL2 := hid (show ∀ W, Calls Try.prog 19 #[.int .u8 (byt t 2)] W fun e w' => e = .returned (.bool true) ∧ w' = W by intro W; have := letter_any (byt t 2) W; rwa [hlt] at this)
          rw [h47] at hc1 hd1
          generalize byt t 2 = c2 at *
          clear hnc h47 hlt
          go_wp2_with fail
          refine (HL2.out _).mono ?_
          rintro e w3' ⟨rfl, hw⟩
          obtain rfl : w3 = w3' := hw.symm
          go_wp2_with fail
          refine (HNM.out 2 1 (by omega)).mono ?_
          rintro e w4 ⟨v, rfl, hb4, ho4⟩
          generalize namedV t 2 1 = M at ho4 HE ⊢
          obtain ⟨a, c, rfl, _⟩ := owns_form ho4
          obtain ⟨kd, sz, nm, at_, sg, cl⟩ := M
          simp only [Mk.val]
          simp only at ho4
          have hr4 := HR1.out.below hb4 (by omega)
          have q0 := hr4.cell 0
          have q1 := hr4.cell 1
          have q2 := hr4.cell 2
          have q3 := hr4.cell 3
          have q4 := hr4.cell 4
          have q5 := hr4.cell 5
          have frq := hr4.frozen
          simp only [List.getElem?_toArray, List.getElem?_cons_zero, List.getElem?_cons_succ] at q0 q1 q2 q3 q4 q5
          have hf := set6_blk (M := ⟨kd, sz, nm, at_, sg, cl⟩) (v := .slice a at_.length c) hr4
          have hB := set6_below (M := ⟨kd, sz, nm, at_, sg, cl⟩) (v := .slice a at_.length c) (Nat.le_refl w.heap.size) (HB1.out.trans (hb4.mono (by omega : w.heap.size ≤ w3.heap.size)))
          have hO := set6_own (M := ⟨kd, sz, nm, at_, sg, cl⟩) hr4 (owns_base ho4 (by omega : w.heap.size ≤ w3.heap.size))
          have HF := hid hf
          have HBF := hid hB
          have HOF := hid hO
          clear hr4 hf hB hO hb4 ho4 r0 r1 r2 r3 r4 r5 frr
          go_wp2_with fail
          (try simp only [Exit.inBlock, Exit.then])
          rw [HTE.out, HE.out]
          exact bodyPost_ret (results_row_tmp rfl _ _ w.heap.size _ _ _ _ rfl HF.out Try.underlying26 rfl (by kernel_rfl)) rfl ⟨_, rfl, HBF.out, HOF.out⟩
      · have h2t : ¬ 2 < t.size := by have := HT.out; omega
        have h2i : ¬ (2 : Int) < ((n - i : Nat) : Int) := by omega
        have HE := hid (show headV t = (upToV t 2 3 gtE, true) by unfold headV; rw [if_neg hnc, if_neg (fun h => h2t h.2.1), if_pos (Or.inr (Or.inr h47))])
        rw [h47] at hc1 hd1
        clear hnc h47
        go_wp2_with fail
        refine (HUP.out 2 3 gtE (by omega) (by decide) (by decide)).mono ?_
        rintro e w4 ⟨rfl, hb4⟩
        have hat := upToV_attrs t 2 3 gtE
        generalize upToV t 2 3 gtE = M at hat HE ⊢
        obtain ⟨kd, sz, nm, at_, sg, cl⟩ := M
        simp only at hat
        subst hat
        simp only [Mk.val]
        have hr4 := HR1.out.below hb4 (by omega)
        have q0 := hr4.cell 0
        have q1 := hr4.cell 1
        have q2 := hr4.cell 2
        have q3 := hr4.cell 3
        have q4 := hr4.cell 4
        have q5 := hr4.cell 5
        have frq := hr4.frozen
        simp only [List.getElem?_toArray, List.getElem?_cons_zero, List.getElem?_cons_succ] at q0 q1 q2 q3 q4 q5
        have hf := set6_blk (M := ⟨kd, sz, nm, [], sg, cl⟩) (v := .slice none 0 0) hr4
        have hB := set6_below (M := ⟨kd, sz, nm, [], sg, cl⟩) (v := .slice none 0 0) (Nat.le_refl w.heap.size) (HB1.out.trans (hb4.mono (by omega : w.heap.size ≤ w3.heap.size)))
        have HF := hid hf
        have HBF := hid hB
        clear hr4 hf hB hb4 r0 r1 r2 r3 r4 r5 frr
        go_wp2_with fail
        (try simp only [Exit.inBlock, Exit.then])
        rw [HTE.out, HE.out]
        exact bodyPost_ret (results_row_tmp rfl _ _ w.heap.size _ _ _ _ rfl HF.out Try.underlying26 rfl (by kernel_rfl)) rfl ⟨_, rfl, HBF.out, rfl, .inl ⟨rfl, rfl⟩⟩
    · have b47 : (byt t 1 == 47) = false := by simpa using h47
      by_cases h33 : byt t 1 = 33
      · have HE := hid (show headV t = (upToV t 2 3 gtE, true) by unfold headV; rw [if_neg hnc, if_neg (fun h => h47 h.1), if_pos (Or.inl h33)])
        rw [h33] at hc1 hd1
        clear hnc h47 h33 b47
        go_wp2_with fail
        refine (HUP.out 2 3 gtE (by omega) (by decide) (by decide)).mono ?_
        rintro e w4 ⟨rfl, hb4⟩
        have hat := upToV_attrs t 2 3 gtE
        generalize upToV t 2 3 gtE = M at hat HE ⊢
        obtain ⟨kd, sz, nm, at_, sg, cl⟩ := M
        simp only at hat
        subst hat
        simp only [Mk.val]
        have hr4 := HR1.out.below hb4 (by omega)
        have q0 := hr4.cell 0
        have q1 := hr4.cell 1
        have q2 := hr4.cell 2
        have q3 := hr4.cell 3
        have q4 := hr4.cell 4
        have q5 := hr4.cell 5
        have frq := hr4.frozen
        simp only [List.getElem?_toArray, List.getElem?_cons_zero, List.getElem?_cons_succ] at q0 q1 q2 q3 q4 q5
        have hf := set6_blk (M := ⟨kd, sz, nm, [], sg, cl⟩) (v := .slice none 0 0) hr4
        have hB := set6_below (M := ⟨kd, sz, nm, [], sg, cl⟩) (v := .slice none 0 0) (Nat.le_refl w.heap.size) (HB1.out.trans (hb4.mono (by omega : w.heap.size ≤ w3.heap.size)))
        have HF := hid hf
        have HBF := hid hB
        clear hr4 hf hB hb4 r0 r1 r2 r3 r4 r5 frr
        go_wp2_with fail
        (try simp only [Exit.inBlock, Exit.then])
        rw [HTE.out, HE.out]
        exact bodyPost_ret (results_row_tmp rfl _ _ w.heap.size _ _ _ _ rfl HF.out Try.underlying26 rfl (by kernel_rfl)) rfl ⟨_, rfl, HBF.out, rfl, .inl ⟨rfl, rfl⟩⟩
      have b33 : (byt t 1 == 33) = false := by simpa using h33
      by_cases h63 : byt t 1 = 63
      · have HE := hid (show headV t = (upToV t 2 3 gtE, true) by unfold headV; rw [if_neg hnc, if_neg (fun h => h47 h.1), if_pos (Or.inr (Or.inl h63))])
        rw [h63] at hc1 hd1
        clear hnc h47 h33 h63 b47 b33
        go_wp2_with fail
        refine (HUP.out 2 3 gtE (by omega) (by decide) (by decide)).mono ?_
        rintro e w4 ⟨rfl, hb4⟩
        have hat := upToV_attrs t 2 3 gtE
        generalize upToV t 2 3 gtE = M at hat HE ⊢
        obtain ⟨kd, sz, nm, at_, sg, cl⟩ := M
        simp only at hat
        subst hat
        simp only [Mk.val]
        have hr4 := HR1.out.below hb4 (by omega)
        have q0 := hr4.cell 0
        have q1 := hr4.cell 1
        have q2 := hr4.cell 2
        have q3 := hr4.cell 3
        have q4 := hr4.cell 4
        have q5 := hr4.cell 5
        have frq := hr4.frozen
        simp only [List.getElem?_toArray, List.getElem?_cons_zero, List.getElem?_cons_succ] at q0 q1 q2 q3 q4 q5
        have hf := set6_blk (M := ⟨kd, sz, nm, [], sg, cl⟩) (v := .slice none 0 0) hr4
        have hB := set6_below (M := ⟨kd, sz, nm, [], sg, cl⟩) (v := .slice none 0 0) (Nat.le_refl w.heap.size) (HB1.out.trans (hb4.mono (by omega : w.heap.size ≤ w3.heap.size)))
        have HF := hid hf
        have HBF := hid hB
        clear hr4 hf hB hb4 r0 r1 r2 r3 r4 r5 frr
        go_wp2_with fail
        (try simp only [Exit.inBlock, Exit.then])
        rw [HTE.out, HE.out]
        exact bodyPost_ret (results_row_tmp rfl _ _ w.heap.size _ _ _ _ rfl HF.out Try.underlying26 rfl (by kernel_rfl)) rfl ⟨_, rfl, HBF.out, rfl, .inl ⟨rfl, rfl⟩⟩
      have b63 : (byt t 1 == 63) = false := by simpa using h63
      cases hlt : letterB (byt t 1)
      · have HE := hid (show headV t = (mk0, false) by unfold headV; rw [if_neg hnc, if_neg (fun h => h47 h.1), if_neg (fun h => h.elim h33 (fun h => h.elim h63 h47)), if_neg (by rw [hlt]; decide)])
        have HL2 := hid (show ∀ W, Calls Try.prog 19 #[.int .u8 (byt t 1)] W fun e w' => e = .returned (.bool false) ∧ w' = W by intro W; have := letter_any (byt t 1) W; rwa [hlt] at this)
        generalize byt t 1 = c1 at *
        clear hnc h47 h33 h63 hlt
        have hf := set6_blk (M := mk0) (v := .slice none 0 0) HR1.out
        have hB := set6_below (M := mk0) (v := .slice none 0 0) (Nat.le_refl w.heap.size) HB1.out
        have HF := hid hf
        have HBF := hid hB
        clear hf hB
        go_wp2_with fail
        refine (HL2.out _).mono ?_
        rintro e w3' ⟨rfl, hw⟩
        obtain rfl : w3 = w3' := hw.symm
        go_wp2_with fail
        (try simp only [Exit.inBlock, Exit.then])
        rw [HTE.out, HE.out]
        exact bodyPost_ret (results_row_tmp rfl _ _ w.heap.size _ _ _ _ rfl HF.out Try.underlying26 rfl (by kernel_rfl)) rfl ⟨_, rfl, HBF.out, rfl, .inl ⟨rfl, rfl⟩⟩
      · have HE := hid (show headV t = (namedV t 1 0, true) by unfold headV; rw [if_neg hnc, if_neg (fun h => h47 h.1), if_neg (fun h => h.elim h33 (fun h => h.elim h63 h47)), if_pos hlt])
        have HL2 := hid (show ∀ W, Calls Try.prog 19 #[.int .u8 (byt t 1)] W fun e w' => e = .returned (.bool true) ∧ w' = W by intro W; have := letter_any (byt t 1) W; rwa [hlt] at this)
        generalize byt t 1 = c1 at *
        clear hnc h47 h33 h63 hlt
        go_wp2_with fail
        refine (HL2.out _).mono ?_
        rintro e w3' ⟨rfl, hw⟩
        obtain rfl : w3 = w3' := hw.symm
        go_wp2_with fail
        refine (HNM.out 1 0 (by omega)).mono ?_
        rintro e w4 ⟨v, rfl, hb4, ho4⟩
        generalize namedV t 1 0 = M at ho4 HE ⊢
        obtain ⟨a, c, rfl, _⟩ := owns_form ho4
        obtain ⟨kd, sz, nm, at_, sg, cl⟩ := M
        simp only [Mk.val]
        simp only at ho4
        have hr4 := HR1.out.below hb4 (by omega)
        have q0 := hr4.cell 0
        have q1 := hr4.cell 1
        have q2 := hr4.cell 2
        have q3 := hr4.cell 3
        have q4 := hr4.cell 4
        have q5 := hr4.cell 5
        have frq := hr4.frozen
        simp only [List.getElem?_toArray, List.getElem?_cons_zero, List.getElem?_cons_succ] at q0 q1 q2 q3 q4 q5
        have hf := set6_blk (M := ⟨kd, sz, nm, at_, sg, cl⟩) (v := .slice a at_.length c) hr4
        have hB := set6_below (M := ⟨kd, sz, nm, at_, sg, cl⟩) (v := .slice a at_.length c) (Nat.le_refl w.heap.size) (HB1.out.trans (hb4.mono (by omega : w.heap.size ≤ w3.heap.size)))
        have hO := set6_own (M := ⟨kd, sz, nm, at_, sg, cl⟩) hr4 (owns_base ho4 (by omega : w.heap.size ≤ w3.heap.size))
        have HF := hid hf
        have HBF := hid hB
        have HOF := hid hO
        clear hr4 hf hB hO hb4 ho4 r0 r1 r2 r3 r4 r5 frr
        go_wp2_with fail
        (try simp only [Exit.inBlock, Exit.then])
        rw [HTE.out, HE.out]
        exact bodyPost_ret (results_row_tmp rfl _ _ w.heap.size _ _ _ _ rfl HF.out Try.underlying26 rfl (by kernel_rfl)) rfl ⟨_, rfl, HBF.out, HOF.out⟩
  · have h4 : 4 ≤ n - i := by
      have h := hcom
      unfold isCom Lib.hasPrefix at h
      have := List.IsPrefix.length_le (List.isPrefixOf_iff_prefix.1 h)
      have h5 : t.data.toList.length = t.size := by simp
      have h6 : comB.data.toList.length = 4 := rfl
      have := HT.out
      omega
    have HE := hid (show headV t = (upToV t 4 2 comE, true) by unfold headV; rw [if_pos hcom])
    clear hcom
    go_wp2_with fail
    refine (HUP.out 4 2 comE h4 (by decide) (by decide)).mono ?_
    rintro e w4 ⟨rfl, hb4⟩
    have hat := upToV_attrs t 4 2 comE
    generalize upToV t 4 2 comE = M at hat HE ⊢
    obtain ⟨kd, sz, nm, at_, sg, cl⟩ := M
    simp only at hat
    subst hat
    simp only [Mk.val]
    have hr4 := HR1.out.below hb4 (by omega)
    have q0 := hr4.cell 0
    have q1 := hr4.cell 1
    have q2 := hr4.cell 2
    have q3 := hr4.cell 3
    have q4 := hr4.cell 4
    have q5 := hr4.cell 5
    have frq := hr4.frozen
    simp only [List.getElem?_toArray, List.getElem?_cons_zero, List.getElem?_cons_succ] at q0 q1 q2 q3 q4 q5
    have hf := set6_blk (M := ⟨kd, sz, nm, [], sg, cl⟩) (v := .slice none 0 0) hr4
    have hB := set6_below (M := ⟨kd, sz, nm, [], sg, cl⟩) (v := .slice none 0 0) (Nat.le_refl w.heap.size) (HB1.out.trans (hb4.mono (by omega : w.heap.size ≤ w3.heap.size)))
    have HF := hid hf
    have HBF := hid hB
    clear hr4 hf hB hb4 r0 r1 r2 r3 r4 r5 frr
    go_wp2_with fail
    (try simp only [Exit.inBlock, Exit.then])
    rw [HTE.out, HE.out]
    exact bodyPost_ret (results_row_tmp rfl _ _ w.heap.size _ _ _ _ rfl HF.out Try.underlying26 rfl (by kernel_rfl)) rfl ⟨_, rfl, HBF.out, rfl, .inl ⟨rfl, rfl⟩⟩
end Go.Proofs.Ytpkbmgpbagdalaa
