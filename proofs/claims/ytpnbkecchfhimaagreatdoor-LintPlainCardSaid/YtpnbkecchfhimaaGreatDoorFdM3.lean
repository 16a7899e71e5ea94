/- Texts of FdD, FdP3, FdE, FdF, merged by a program of mine. -/
import Derived.Test.YtpnbkecchfhimaaGreatDoorFdM2
import Derived.Test.YtpnbkecchfhimaaGreatDoorGrSh
import Derived.Laws.OwnMore

/- out of FdD -/
namespace Go.Proofs.YtpnbkecchfhimaaGreatDoor
open Go.RowKit Go.Shelf
open Go.Lib (hid)
set_option linter.unusedVariables false
set_option linter.unusedSimpArgs false
set_option maxRecDepth 100000

theorem grow_any (n : Nat) (hn : n ≤ 1000000) (w : World) :
    Calls Tryz.prog 57 #[.slice none 0 0, .int .i64 n] w fun e w' => ∃ v, e = .returned v ∧ w'.ownsRow w.heap.size 5 1 v 0 [] ∧ Below w.heap.size w w' := by
  obtain ⟨i0, hi, hz0, hz1, hz2⟩ := info_parts info_u8
  by_cases h0 : n = 0
  · subst h0
    refine (Any8.slices_Grow_room Tryz.laysGr none 0 0 0 w (Nat.le_refl _) (by decide) (by decide) (by decide)).mono ?_
    rintro e w' ⟨rfl, rfl⟩
    exact ⟨_, rfl, World.ownsRow_nil _ _ _ _, Below.refl _ _⟩
  · refine (Any8.slices_Grow_grow Tryz.laysGr i0 (.int .u8 0) hi hz0 (by rw [hz1]; decide) none 0 0 n [] w (Nat.le_refl _) (by omega) (by rw [hz2]; omega) (by omega) (by simp) (fun _ => rfl) (fun a h => by cases h)).mono ?_
    rintro e w' ⟨rfl, rfl⟩
    have hg := grownCap_ge w (0 + n) 0 5
    have hm := grownCap_le_maxLen w (0 + n) 0 5 (by unfold maxLen; omega)
    refine ⟨_, rfl, ⟨by simp, .inr ⟨w.heap.size, _, _, rfl, Nat.le_refl _, heap_alloc_new w.drew _, Nat.zero_le _, hm, ?_, by simp⟩⟩, (Below.refl w.heap.size w).drew.alloc (Nat.le_refl _) _⟩
    have hzc : ∀ k, (Builtin.zeroCells (Value.int .u8 0).cells k).size = k := fun k => by simp [Builtin.zeroCells, Value.cells]
    show (_ ++ _ ++ _ : Array Value).size = grownCap w (0 + n) 0 5 * 1
    rw [Array.size_append, Array.size_append, hzc, hzc]
    have hg2 : n ≤ grownCap w n 0 5 := grownCap_ge w n 0 _
    rw [Nat.zero_add, Nat.mul_one]
    show 0 + (n - 0) + (grownCap w n 0 5 - n) = grownCap w n 0 5
    omega
set_option maxHeartbeats 4000000 in
/-- Two slices of bytes, one behind the other. -/
theorem concat_any (A1 A2 : Option Addr) (n1 n2 c1 c2 q : Nat) (s1 s2 : ByteArray) (w : World) (h1 : BA w A1 n1 c1 s1) (h2 : BA w A2 n2 c2 s2) (hq : Blk w q 22 #[.slice A1 n1 c1, .slice A2 n2 c2]) (hm1 : n1 ≤ 400000) (hm2 : n2 ≤ 400000) :
    Calls Tryz.prog 33 #[.slice (some ⟨q, 0, none⟩) 2 2] w fun e w' => ∃ v, e = .returned v ∧ w'.ownsRow w.heap.size 5 1 v (s1 ++ s2).size (u8s (s1 ++ s2)) ∧ Below w.heap.size w w' := by
  obtain ⟨i0, hi, hz0, hz1, hz2⟩ := info_parts info_u8
  have x0 := hq.cell 0
  have x1 := hq.cell 1
  simp only [List.getElem?_toArray, List.getElem?_cons_zero, List.getElem?_cons_succ] at x0 x1
  have HG := hid (fun W => grow_any (n1 + n2) (by omega) W)
  have H1 := hid h1
  have H2 := hid h2
  have HQL := hid hq.lt
  have HN1 := hid h1.1
  have HN2 := hid h2.1
  have a1 : (n1 : Int) + (n2 : Int) = ((n1 + n2 : Nat) : Int) := by omega
  have a2 : ((n1 + n2 : Nat) : Int) ≤ 1000000 := by omega
  have HM := hid (show n1 + n2 ≤ 1000000 by omega)
  generalize n1 + n2 = m at *
  clear h1 h2 hq
  go_enter Tryz.func33, Tryz.ntmps33
  go_wp2_with fail
  go_loopg [3, 11] 2 (fun kx s3 s11 wr => ∃ (i : Nat) (z : Int), s3 = .int .i64 z ∧ s11 = .int .i64 i ∧ i ≤ 2 ∧ 2 - i ≤ kx ∧ wr = w ∧ Hid ((i = 0 ∧ z = 0) ∨ (i = 1 ∧ z = n1) ∨ (i = 2 ∧ z = m)))
  case atStart => exact ⟨0, 0, rfl, rfl, by decide, Nat.le_refl _, rfl, .inl ⟨rfl, rfl⟩⟩
  case round =>
    obtain ⟨i, z, rfl, rfl, hi2, hg, hw, HZ⟩ := hrel
    obtain rfl : w = wr := hw.symm
    rcases HZ.out with ⟨rfl, rfl⟩ | ⟨rfl, rfl⟩ | ⟨rfl, rfl⟩
    · have hn0 : ¬ (n1 : Int) < 0 := by omega
      go_wp2_with fail
      go_roundg 1
      case measure => omega
      case rel => exact ⟨1, n1, by simp, rfl, by decide, Nat.le_refl _, rfl, .inr (.inl ⟨rfl, rfl⟩)⟩
    · have hn0 : ¬ (m : Int) < 0 := by omega
      go_wp2_with fail
      go_roundg 0
      case measure => omega
      case rel => exact ⟨2, m, by simp, rfl, by decide, Nat.le_refl _, rfl, .inr (.inr ⟨rfl, rfl⟩)⟩
    · go_wp2_with fail
      refine (HG.out _).mono ?_
      rintro e w2 ⟨v, rfl, hr2, hb2⟩
      have HR2 := hid hr2
      have HB2 := hid hb2
      clear hr2 hb2
      go_wp2_with fail
      go_loopg [6, 27] 2 (fun kx s6 s27 wr => ∃ (i : Nat) (v : Value) (t : ByteArray), s6 = v ∧ s27 = .int .i64 i ∧ i ≤ 2 ∧ 2 - i ≤ kx ∧ Hid (wr.ownsRow w.heap.size 5 1 v t.size (u8s t)) ∧ Hid (Below w.heap.size w wr) ∧ Hid ((i = 0 ∧ t = ⟨#[]⟩) ∨ (i = 1 ∧ t = s1) ∨ (i = 2 ∧ t = s1 ++ s2)))
      case atStart => exact ⟨0, _, ⟨#[]⟩, rfl, rfl, by decide, Nat.le_refl _, HR2.out, HB2.out, .inl ⟨rfl, rfl⟩⟩
      case round =>
        obtain ⟨i, v, t, rfl, rfl, hi3, hg3, HROW, HB, HT⟩ := hrel
        have hszr := HB.out.size
        have hx0 := (HB.out.cell (p := ⟨q, 0, none⟩) HQL.out).trans x0
        have hx1 := (HB.out.cell (p := ⟨q, 1, none⟩) HQL.out).trans x1
        have HRD1 := hid (H1.out.below HB.out (Nat.le_refl _)).reads
        have HRD2 := hid (H2.out.below HB.out (Nat.le_refl _)).reads
        obtain ⟨A0, c0, rfl⟩ := owns_slice HROW.out
        rcases HT.out with ⟨rfl, rfl⟩ | ⟨rfl, rfl⟩ | ⟨rfl, rfl⟩
        · go_wp2_with (at_builtin; go_must (refine wpList_append_any _ rfl (.tmp 31) (.tmp 32) 22 rfl w.heap.size 5 i0 (.int .u8 0) 1 1 Tryz.underlying22 hi hz0 hz1 hz2 rfl (by decide) _ 0 [] rfl HROW.out _ A1 n1 c1 (u8s s1) rfl HRD1.out (u8s_one _) (by unfold maxLen; omega) (by omega) (by omega) ?_); intro v6 w6 hown6 hgrow6 _)
          have HB6 := hid (HB.out.grown hgrow6 hszr (fun k e => (HROW.out.lt k e).1))
          go_roundg 1
          case measure => omega
          case rel => exact ⟨1, v6, s1, rfl, rfl, by decide, Nat.le_refl _, by
            show World.ownsRow _ _ _ _ _ _ _
            have h := hown6
            rw [Nat.zero_add, List.nil_append, HN1.out] at h
            exact h, HB6.out, .inr (.inl ⟨rfl, rfl⟩)⟩
        · go_wp2_with (at_builtin; go_must (refine wpList_append_any _ rfl (.tmp 31) (.tmp 32) 22 rfl w.heap.size 5 i0 (.int .u8 0) 1 1 Tryz.underlying22 hi hz0 hz1 hz2 rfl (by decide) _ t.size (u8s t) rfl HROW.out _ A2 n2 c2 (u8s s2) rfl HRD2.out (u8s_one _) (by have := HN1.out; unfold maxLen; omega) (by have := HN1.out; omega) (by omega) ?_); intro v6 w6 hown6 hgrow6 _)
          have HB6 := hid (HB.out.grown hgrow6 hszr (fun k e => (HROW.out.lt k e).1))
          go_roundg 0
          case measure => omega
          case rel => exact ⟨2, v6, _, rfl, rfl, by decide, Nat.le_refl _, by
            show World.ownsRow _ _ _ _ _ _ _
            rw [ByteArray.size_append, u8s_append, ← HN2.out]
            exact hown6, HB6.out, .inr (.inr ⟨rfl, rfl⟩)⟩
        · go_wp2_with fail
          go_ret
          refine ⟨.slice A0 (s1.size + s2.size) c0, rfl, ?_, HB.out⟩
          have h := HROW.out
          rw [ByteArray.size_append] at h
          exact h
end Go.Proofs.YtpnbkecchfhimaaGreatDoor

/- out of FdP3 -/
namespace Go.Proofs.YtpnbkecchfhimaaGreatDoor
set_option linter.unusedVariables false
set_option maxRecDepth 100000

theorem drop_take_drop {α : Type} (l : List α) (m e k : Nat) : ((l.drop m).take e).drop k = (l.take (m + e)).drop (m + k) := by
  apply List.ext_getElem?
  intro i
  rw [List.getElem?_drop, List.getElem?_take, List.getElem?_drop, List.getElem?_drop, List.getElem?_take]
  by_cases h : k + i < e
  · rw [if_pos h, if_pos (by omega), Nat.add_assoc]
  · rw [if_neg h, if_neg (by omega)]
theorem begT_map (l : List Tk) (p : Nat) (m : Nat) (hm : 0 < m) (hl : m ≤ l.length) : begT (l.map (Tk.up p)) m = begT l m + p := by
  cases m with
  | zero => omega
  | succ m =>
    unfold begT
    simp only [List.getElem?_map]
    rw [List.getElem?_eq_getElem (by omega)]
    rfl
theorem begT_drop (l : List Tk) (m j : Nat) (hj : 0 < j) : begT (l.drop m) j = begT l (m + j) := by
  cases j with
  | zero => omega
  | succ j =>
    show (match (l.drop m)[j]? with | none => 0 | some t => t.til) = (match l[m + j]? with | none => 0 | some t => t.til)
    rw [List.getElem?_drop]
theorem keepB_up (p : Nat) (t : Tk) : keepB (Tk.up p t) = keepB t := rfl
/-- What is behind one piece more. -/
structure FdNext (s' t : ByteArray) (m k p : Nat) : Prop where
  kle : k ≤ (toks t).length
  len : (toks t).length = (toks s').length - m
  mle : m ≤ (toks s').length
  out : ∀ e, k ≤ e → e ≤ (toks t).length → (((toks t).take e).drop k).map (Tk.up p) = ((toks s').take (m + e)).drop (m + k)
  set : ∀ i, setB t (toks t) i = setB s' (toks s') (m + i)
  next : ∀ e, k ≤ e → m + e ≤ setN s' → FdOk s' (m + (nextM (toks t) e).1) (nextM (toks t) e).2 ∧ (nextM (toks t) e).1 + (nextM (toks t) e).2 = e
  beg : ∀ j, j ≤ (toks t).length → p + begT (toks t) j = begT (toks s') (m + j)
  left : ∀ e, leftN (toks t) e t.size = if (toks s').length ≤ m + e then 0 else (s'.size : Int) - ((((toks s').getD (m + e) ⟨0, 0, 0, noB, 0, false⟩).fr : Nat) : Int)
  told : m + k ≤ setN s'
theorem FdOk.feed {s s' t : ByteArray} {m k p : Nat} (h : FdOk s m k) (hp : Pre s s') (hpe : p = begT (toks s) m) (ht : t = s'.extract p s'.size) : FdNext s' t m k p := by
  obtain ⟨h', hta, hbe⟩ := h.grow hp
  have hps : p ≤ s'.size := by rw [hpe, ← hbe]; exact begT_le (by have := h'.le; omega)
  have hfrom := toks_from (s := s') (m := m) (by have := h'.le; omega) h'.not7
  rw [hbe, ← hpe] at hfrom
  have hext := toksAt_ext s' p hps _ 0 (Nat.le_refl _)
  rw [Nat.add_zero] at hext
  have hext : (toks s').drop m = (toks t).map (Tk.up p) := by rw [← hfrom, hext, ht]; rfl
  have hlen : (toks t).length = (toks s').length - m := by
    have := congrArg List.length hext
    rw [List.length_drop, List.length_map] at this
    omega
  have hml : m ≤ (toks s').length := by have := h'.le; omega
  have hts : t.size = s'.size - p := by rw [ht, ext_size]
  have hset : ∀ i, setB t (toks t) i = setB s' (toks s') (m + i) := fun i => by
    rw [ht, setB_ext s' p hps i, hfrom, setB_drop]
  have hbeg : ∀ j, j ≤ (toks t).length → p + begT (toks t) j = begT (toks s') (m + j) := fun j hj => by
    cases j with
    | zero => rw [Nat.add_zero, hbe, ← hpe]; rfl
    | succ j =>
      have e1 : begT (toks s') (m + (j + 1)) = begT ((toks s').drop m) (j + 1) := (begT_drop _ m (j + 1) (Nat.succ_pos _)).symm
      rw [e1, hext, begT_map _ _ _ (Nat.succ_pos _) hj, Nat.add_comm]
  have hgetD : ∀ e, e < (toks t).length → ((toks t).getD e ⟨0, 0, 0, noB, 0, false⟩).up p = (toks s').getD (m + e) ⟨0, 0, 0, noB, 0, false⟩ := fun e he => by
    have h1 := congrArg (·[e]?) hext
    simp only [List.getElem?_drop, List.getElem?_map] at h1
    rw [List.getD_eq_getElem?_getD, List.getD_eq_getElem?_getD, h1, List.getElem?_eq_getElem he]
    rfl
  refine ⟨by have := h'.le; omega, hlen, hml, fun e h1 h2 => ?_, hset, fun e h1 h2 => ?_, hbeg, fun e => ?_, h'.le_setN⟩
  · rw [List.map_drop, List.map_take, ← hext, drop_take_drop]
  · cases e with
    | zero =>
      have hk0 : k = 0 := by omega
      subst hk0
      exact ⟨h', rfl⟩
    | succ e =>
      have hel : e < (toks t).length := by have := setN_le s'; omega
      have hme : m + e < (toks s').length := by omega
      have hget : (toks s')[m + (e + 1) - 1]? = some ((toks s')[m + e]'hme) := by
        rw [show m + (e + 1) - 1 = m + e by omega]
        exact List.getElem?_eq_getElem hme
      have hn := FdOk.next (s := s') (n := m + (e + 1)) h2 (by omega) hget
      have hkp : keepB ((toks t).getD e ⟨0, 0, 0, noB, 0, false⟩) = keepB ((toks s')[m + e]'hme) := by
        have := hgetD e hel
        rw [← keepB_up p, this, List.getD_eq_getElem?_getD, List.getElem?_eq_getElem hme]
        rfl
      unfold nextM
      simp only
      rw [hkp]
      by_cases hk : keepB ((toks s')[m + e]'hme) = true
      · rw [if_pos hk] at hn ⊢
        exact ⟨hn, rfl⟩
      · rw [if_neg hk] at hn ⊢
        exact ⟨hn, rfl⟩
  · unfold leftN
    by_cases hle : (toks t).length ≤ e
    · rw [if_pos hle, if_pos (by omega)]
    · rw [if_neg hle, if_neg (by omega), ← hgetD e (by omega)]
      show ((t.size : Nat) : Int) - _ = (s'.size : Int) - ((((toks t).getD e ⟨0, 0, 0, noB, 0, false⟩).fr + p : Nat) : Int)
      omega
theorem FdNext.cut {s' t : ByteArray} {m k p j : Nat} (h : FdNext s' t m k p) (ht : t = s'.extract p s'.size) (hj : j ≤ (toks t).length) : t.extract (begT (toks t) j) t.size = s'.extract (begT (toks s') (m + j)) s'.size := by
  rw [← h.beg j hj]
  subst ht
  exact ext_extT s' p _
theorem FdNext.stop {s' t : ByteArray} {m k p : Nat} (h : FdNext s' t m k p) : m + scanTo (fun i => !setB t (toks t) i) (toks t).length k = setN s' := by
  have h1 := setN_from (s := s') (T := m + k) (fun i hi => setN_set s' i (by have := h.told; omega)) _ 0 rfl (Nat.zero_le _) (by have := h.told; have := setN_le s'; omega)
  have h2 := scanTo_shift (p := fun i => !setB s' (toks s') i) (q := fun i => !setB t (toks t) i) (n := (toks t).length) (k := m) (fun j => by rw [h.set j]) k
  unfold setN
  rw [h1, ← h2, h.len]
  congr 1
  have := h.mle
  omega
end Go.Proofs.YtpnbkecchfhimaaGreatDoor

/- out of FdE -/
namespace Go.Proofs.YtpnbkecchfhimaaGreatDoor
open Go.RowKit Go.Shelf
open Go.Lib (hid)
set_option linter.unusedVariables false
set_option linter.unusedSimpArgs false
set_option maxRecDepth 100000

/-- A feeder, at a block: fed with s so far; m tokens are behind, k more are answered; what it told last, and from where. -/
def FdAt (W : World) (g : Nat) (s : ByteArray) (m k : Nat) (was : ByteArray) (wa : Nat) (fd wt : Int) (cl : Bool) : Prop :=
  ∃ Ab nb cb Aw nw cw, Blk W g 64 (fdC Ab nb cb (begT (toks s) m) k (.slice Aw nw cw) wa fd wt cl) ∧ BA W Ab nb cb (s.extract (begT (toks s) m) s.size) ∧ BA W Aw nw cw was ∧ (∀ b o, Ab = some ⟨b, o, none⟩ → b ≠ g) ∧ (∀ b o, Aw = some ⟨b, o, none⟩ → b ≠ g)
theorem FdAt.lt {W : World} {g : Nat} {s : ByteArray} {m k : Nat} {was : ByteArray} {wa : Nat} {fd wt : Int} {cl : Bool} (h : FdAt W g s m k was wa fd wt cl) : g < W.heap.size := by
  obtain ⟨Ab, nb, cb, Aw, nw, cw, h1, _⟩ := h
  exact h1.lt
theorem FdAt.below {W W' : World} {g B : Nat} {s : ByteArray} {m k : Nat} {was : ByteArray} {wa : Nat} {fd wt : Int} {cl : Bool} (h : FdAt W g s m k was wa fd wt cl) (hb : Below B W W') (hB : W.heap.size ≤ B) : FdAt W' g s m k was wa fd wt cl := by
  obtain ⟨Ab, nb, cb, Aw, nw, cw, h1, h2, h3, h4, h5⟩ := h
  exact ⟨Ab, nb, cb, Aw, nw, cw, h1.below hb (Nat.lt_of_lt_of_le h1.lt hB), h2.below hb hB, h3.below hb hB, h4, h5⟩
theorem BA.grown0 {w w' : World} {A : Option Addr} {n c g : Nat} {s : ByteArray} (h : BA w A n c s) (hg : w.grownBy w' (some g)) (hne : 0 < n → ∀ b o, A = some ⟨b, o, none⟩ → b ≠ g) : BA w' A n c s :=
  ⟨h.1, h.2.1, h.2.2.1, fun hn => by
    obtain ⟨b, o, e, hb, hz⟩ := h.2.2.2 hn
    exact ⟨b, o, e, Nat.lt_of_lt_of_le hb hg.size, Bytes.keepAt hz fun k => World.cell?_of_block (hg.block b hb (fun e2 => hne hn b o e (by injection e2)))⟩⟩
/-- Kept, where a row below those blocks is written. -/
theorem FdAt.row {W W' : World} {g L : Nat} {s : ByteArray} {m k : Nat} {was : ByteArray} {wa : Nat} {fd wt : Int} {cl : Bool} (h : FdAt W g s m k was wa fd wt cl) (hi : ∀ b o n c, (W.cell? ⟨g, 0, none⟩ = some (.slice (some ⟨b, o, none⟩) n c) ∨ W.cell? ⟨g, 3, none⟩ = some (.slice (some ⟨b, o, none⟩) n c)) → L ≤ b) {row : Option Nat} (hg : W.grownBy W' row) (hr : ∀ j, row = some j → j < L ∧ j ≠ g) : FdAt W' g s m k was wa fd wt cl := by
  obtain ⟨Ab, nb, cb, Aw, nw, cw, h1, h2, h3, h4, h5⟩ := h
  have q0 := h1.cell 0
  have q3 := h1.cell 3
  unfold fdC at q0 q3
  simp only [List.getElem?_toArray, List.getElem?_cons_zero, List.getElem?_cons_succ] at q0 q3
  have hba : ∀ (A : Option Addr) (n c : Nat) (t : ByteArray), BA W A n c t → (∀ b o, A = some ⟨b, o, none⟩ → L ≤ b) → BA W' A n c t := fun A n c t hb hl => ⟨hb.1, hb.2.1, hb.2.2.1, fun hn => by
    obtain ⟨b, o, e, hlt, hz⟩ := hb.2.2.2 hn
    exact ⟨b, o, e, Nat.lt_of_lt_of_le hlt hg.size, Bytes.keepAt hz fun j => World.cell?_of_block (hg.block b hlt (fun e2 => by have := hr b e2.symm; have := hl b o e; omega))⟩⟩
  exact ⟨Ab, nb, cb, Aw, nw, cw, h1.grown hg (fun e => (hr g e.symm).2 rfl), hba _ _ _ _ h2 (fun b o e => hi b o nb cb (.inl (by rw [q0, e]))), hba _ _ _ _ h3 (fun b o e => hi b o nw cw (.inr (by rw [q3, e]))), h4, h5⟩
theorem noB_extract (p : Nat) : noB.extract p noB.size = noB := by
  apply ByteArray.ext
  simp [noB]
theorem fdNew_any (w : World) : Calls Tryz.prog 11 #[] w fun e w' => e = .returned (.pointer (some ⟨w.heap.size, 0, none⟩)) ∧ FdAt w' w.heap.size noB 0 0 noB 0 0 0 false ∧ Below w.heap.size w w' := by
  have HB := hid (fun cs => (Below.refl w.heap.size w).alloc (Nat.le_refl _) (.cells cs 64))
  have HK := hid (fun cs => Blk.new w 64 cs)
  go_enter Tryz.func11, Tryz.ntmps11
  go_wp2_with fail
  go_ret
  refine ⟨rfl, ⟨none, 0, 0, none, 0, 0, HK.out _, ?_, ⟨rfl, Nat.le_refl _, by decide, fun h => absurd h (by decide)⟩, (fun b o e => by cases e), (fun b o e => by cases e)⟩, HB.out _⟩
  rw [noB_extract]
  exact ⟨rfl, Nat.le_refl _, by decide, fun h => absurd h (by decide)⟩
theorem slice_form {W : World} {v : Value} {l : List Tk} {B : Nat} (h : MadeT B W v l) : ∃ A cap, v = .slice A l.length cap ∧ TR W A l.length l ∧ l.length ≤ cap ∧ cap ≤ 9223372036854775807 ∧ ∀ b, A = some ⟨b, 0, none⟩ → B ≤ b := by
  obtain ⟨A, cap, rfl, htr⟩ := TR.of_made h
  obtain ⟨A2, c2, e, h1, h2, _⟩ := owns_form h.1
  injection e with e1 _ e3
  subst e1 e3
  exact ⟨A, cap, rfl, htr, h1, by unfold maxLen at h2; omega, fun b hb => (h.1.lt b (by rw [hb]; rfl)).1⟩
/-- The bytes that are held, and those of the last answer, are of blocks from a place on. -/
def FdHi (W : World) (g L : Nat) : Prop := ∀ b o n c, (W.cell? ⟨g, 0, none⟩ = some (.slice (some ⟨b, o, none⟩) n c) ∨ W.cell? ⟨g, 3, none⟩ = some (.slice (some ⟨b, o, none⟩) n c)) → L ≤ b
/-- What one piece more answers, and what is held behind it. -/
def FeedPost (g : Nat) (s x : ByteArray) (m k : Nat) (fd : Int) (n : Nat) (w : World) (e : Ending) (w' : World) : Prop :=
  ∃ v m' k', e = .returned v ∧ w'.ownsRow w.heap.size 29 6 v (setN (s ++ x) - (m + k)) (tkCells (((toks (s ++ x)).take (setN (s ++ x))).drop (m + k))) ∧
      FdAt w' g (s ++ x) m' k' ((s ++ x).extract (begT (toks s) m) (s ++ x).size) (begT (toks s) m) (fd + n) (if (toks (s ++ x)).length ≤ setN (s ++ x) then 0 else ((s ++ x).size : Int) - ((((toks (s ++ x)).getD (setN (s ++ x)) ⟨0, 0, 0, noB, 0, false⟩).fr : Nat) : Int)) false ∧ FdOk (s ++ x) m' k' ∧ m' + k' = setN (s ++ x) ∧ w.grownBy w' (some g) ∧ FdHi w' g w.heap.size
set_option maxHeartbeats 8000000 in
theorem feed_any (g : Nat) (s x : ByteArray) (m k : Nat) (was : ByteArray) (wa : Nat) (fd wt : Int) (A : Option Addr) (n cap : Nat) (w : World) (hf : FdAt w g s m k was wa fd wt false) (hok : FdOk s m k) (hba : BA w A n cap x) (hA : 0 < n → ∀ b o, A = some ⟨b, o, none⟩ → b ≠ g) (hmx : Mx w) (hgm : g ≠ 0) (hm : (s ++ x).size ≤ 400000) (hfd : 0 ≤ fd) (hfd2 : fd ≤ 1000000) :
    Calls Tryz.prog 12 #[.pointer (some ⟨g, 0, none⟩), .slice A n cap] w (FeedPost g s x m k fd n w) := by
  obtain ⟨Ab, nb, cb, Aw, nw, cw, h1, h2, h3, h4, h5⟩ := hf
  have hgl := h1.lt
  have hpre : Pre s (s ++ x) := ⟨by rw [ByteArray.size_append]; omega, fun i hi => byt_left s x i hi⟩
  obtain ⟨p, hp⟩ : ∃ p, p = begT (toks s) m := ⟨_, rfl⟩
  obtain ⟨t, ht⟩ : ∃ t, t = (s ++ x).extract p (s ++ x).size := ⟨_, rfl⟩
  have hnx := hok.feed hpre hp ht
  have hps : p ≤ s.size := by rw [hp]; exact begT_le (by have := hok.le; omega)
  have htt : s.extract p s.size ++ x = t := by
    rw [ht]
    apply ext_byt
    · rw [ByteArray.size_append, ext_size, ext_size, ByteArray.size_append]; omega
    · intro i hi
      rw [ByteArray.size_append, ext_size] at hi
      rw [byt_ext (s ++ x) p i (by rw [ByteArray.size_append]; omega)]
      by_cases hlt : i < s.size - p
      · rw [byt_left _ _ i (by rw [ext_size]; exact hlt), byt_ext s p i (by omega), byt_left s x _ (by omega)]
      · obtain ⟨j, rfl⟩ : ∃ j, i = s.size - p + j := ⟨i - (s.size - p), by omega⟩
        have e1 : s.size - p + j = (s.extract p s.size).size + j := by rw [ext_size]
        have e2 : p + (s.size - p + j) = s.size + j := by omega
        rw [e2, byt_right, e1, byt_right]
  rw [← hp] at h1 h2
  have HPE := hid hp
  have x0 := h1.cell 0
  have x1 := h1.cell 1
  have x2 := h1.cell 2
  have x5 := h1.cell 5
  have x6 := h1.cell 6
  have x7 := h1.cell 7
  have xf := h1.frozen
  unfold fdC at x0 x1 x2 x5 x6 x7
  simp only [List.getElem?_toArray, List.getElem?_cons_zero, List.getElem?_cons_succ] at x0 x1 x2 x5 x6 x7
  have hns := hba.1
  have hss : (s ++ x).size = s.size + x.size := ByteArray.size_append
  have H1 := hid h1
  have H2 := hid h2
  have H3 := hid h3
  have H4 := hid h4
  have H5 := hid h5
  have HBA := hid hba
  have HA := hid hA
  have HNX := hid hnx
  have HTT := hid htt
  have HT := hid ht
  have HMX := hid hmx
  have HTS := hid (show t.size ≤ 400000 by rw [ht, ext_size]; omega)
  have HPB := hid (show p ≤ 400000 by omega)
  have e1 : IntKind.i64.wrap (fd + (n : Int)) = fd + (n : Int) := IntWalk.i64_in _ (by omega)
  have e2 : fd + (n : Int) ≤ 2000000 := by omega
  have HSX := hid hss
  have HNS := hid hns
  have hn4 : n ≤ 400000 := by omega
  have hnb4 : nb ≤ 400000 := by have := h2.1; rw [ext_size] at this; omega
  have HGM := hid hgm
  clear h1 h2 h3 h4 h5 hba hA hnx htt ht hmx hpre hps hss hok hm hns hp hgm
  generalize hfn : fd + (n : Int) = fn at *
  have HFN := hid hfn
  go_enter Tryz.func12, Tryz.ntmps12
  go_upto_region 4 with fail
  have HK1 := hid (show Blk (w.setCell ⟨g, 5, none⟩ (.int .i64 fn)) g 64 (fdC Ab nb cb p k (.slice Aw nw cw) wa fn wt false) by have := H1.out.set_ 5 (.int .i64 fn); simpa [fdC] using this)
  have HG1 := hid (grown_set w g 5 (.int .i64 fn))
  generalize w.setCell ⟨g, 5, none⟩ (.int .i64 fn) = w1 at *
  clear x0 x1 x2 x5 x6 x7 xf hfn
  have y0 := HK1.out.cell 0
  have yf := HK1.out.frozen
  unfold fdC at y0
  simp only [List.getElem?_toArray, List.getElem?_cons_zero, List.getElem?_cons_succ] at y0
  have hb2 : Below w1.heap.size w1 (w1.alloc (.cells #[.slice Ab nb cb, .slice A n cap] 22)) := (Below.refl _ _).alloc (Nat.le_refl _) _
  have HCC := hid (concat_any Ab A nb n cb cap w1.heap.size (s.extract p s.size) x _ ((H2.out.grown HG1.out H4.out).below hb2 (Nat.le_refl _)) ((HBA.out.grown0 HG1.out HA.out).below hb2 (Nat.le_refl _)) (Blk.new w1 22 #[.slice Ab nb cb, .slice A n cap]) hnb4 hn4)
  rw [HTT.out] at HCC
  have HK2 := hid (HK1.out.below hb2 HK1.out.lt)
  have HG2 := hid (HG1.out.trans (grown_of_below hb2 (some g)))
  have hs2 : w1.heap.size < (w1.alloc (.cells #[.slice Ab nb cb, .slice A n cap] 22)).heap.size := by simp
  have hg1l := HK1.out.lt
  clear hb2
  go_wp2_with fail
  refine HCC.out.mono ?_
  rintro e w3 ⟨v, rfl, hr3, hb3⟩
  obtain ⟨A3, c3, rfl⟩ := owns_slice hr3
  have hA3 : ∀ b o, A3 = some ⟨b, o, none⟩ → b ≠ g := fun b o e => by
    have := (hr3.lt b (by rw [e]; rfl)).1
    omega
  have hba3 := BA.of_own hr3
  have hk3 := HK2.out.below hb3 HK2.out.lt
  have z0 := hk3.cell 0
  have zf := hk3.frozen
  unfold fdC at z0
  simp only [List.getElem?_toArray, List.getElem?_cons_zero, List.getElem?_cons_succ] at z0
  have hg3 := HG2.out.trans (grown_of_below hb3 (some g))
  have HK4 := hid (show Blk (w3.setCell ⟨g, 0, none⟩ (.slice A3 t.size c3)) g 64 (fdC A3 t.size c3 p k (.slice Aw nw cw) wa fn wt false) by have := hk3.set_ 0 (.slice A3 t.size c3); simpa [fdC] using this)
  have HG4 := hid (hg3.trans (grown_set w3 g 0 (.slice A3 t.size c3)))
  have HBA4 := hid (hba3.grown (grown_set w3 g 0 (.slice A3 t.size c3)) hA3)
  have HA3 := hid hA3
  have HA3L := hid (show ∀ b o, A3 = some ⟨b, o, none⟩ → w.heap.size ≤ b from fun b o e => by
    have h8 := (hr3.lt b (by rw [e]; rfl)).1
    have h9 := HG1.out.size
    omega)
  clear hr3 hb3 hba3 hk3 hg3 hA3 HCC HK2 HG2 y0 yf
  go_upto_region 5 with fail
  generalize w3.setCell ⟨g, 0, none⟩ (.slice A3 t.size c3) = w4 at *
  clear z0 zf
  have y0 := HK4.out.cell 0
  unfold fdC at y0
  simp only [List.getElem?_toArray, List.getElem?_cons_zero, List.getElem?_cons_succ] at y0
  have hmx4 : Mx w4 := by
    obtain ⟨mm, hmm⟩ := HMX.out
    exact ⟨mm, (World.cell?_of_block (HG4.out.block _ (World.block_lt_of_cell? _ _ hmm) (fun e => HGM.out (by injection e with e; exact e.symm)))).trans hmm⟩
  have HALL := hid (tokAll_any A3 t.size c3 t w4 HBA4.out hmx4 (by have := HTS.out; omega))
  have hg4l := HK4.out.lt
  go_wp2_with fail
  refine HALL.out.mono ?_
  rintro e w5 ⟨v, rfl, hmd, hb5⟩
  obtain ⟨A5, cap5, rfl, htr5, hc5, hc6, hA5⟩ := slice_form hmd
  have HTR := hid htr5
  have HCAP := hid (And.intro hc5 hc6)
  have HA5 := hid (show ∀ b, A5 = some ⟨b, 0, none⟩ → b ≠ g from fun b e => by have := hA5 b e; omega)
  have HK5 := hid (HK4.out.below hb5 hg4l)
  have HBA5 := hid (HBA4.out.below hb5 (Nat.le_refl _))
  have HG5 := hid (HG4.out.trans (grown_of_below hb5 (some g)))
  have hmx5 := hmx4.below hb5 (Nat.le_refl _)
  have HMX5 := hid hmx5
  clear hmd htr5 hc5 hc6 hA5 hb5 hmx4 hmx5 HALL y0 HK4 HG4 HBA4 HG1 HK1
  have HK4 := HK5
  have HG14 := HG5
  obtain ⟨L, hL⟩ : ∃ L, L = (toks t).length := ⟨_, rfl⟩
  have HL := hid hL
  rw [← hL] at HTR HCAP ⊢
  have hkL : k ≤ L := by rw [hL]; exact HNX.out.kle
  have hkL' : (k : Int) ≤ (L : Int) := by omega
  have hL4 : L ≤ 400000 := by rw [hL]; have := toks_len t; have := HTS.out; omega
  clear hL
  have HG4L := hid HK4.out.lt
  have y0 := HK4.out.cell 0
  have y2 := HK4.out.cell 2
  unfold fdC at y0 y2
  simp only [List.getElem?_toArray, List.getElem?_cons_zero, List.getElem?_cons_succ] at y0 y2
  go_wp2_with fail
  go_loopg [6] (L - k) (fun kx s6 wr => ∃ i : Nat, s6 = .int .i64 i ∧ k ≤ i ∧ i ≤ L ∧ L - i ≤ kx ∧ Hid (∀ j, k ≤ j → j < i → setB t (toks t) j = true) ∧ Hid (Below w5.heap.size w5 wr))
  case atStart => exact ⟨k, congrArg (Value.int .i64) (Int.min_eq_left hkL'), Nat.le_refl _, hkL, Nat.le_refl _, fun j h1 h2 => by omega, Below.refl _ _⟩
  case round =>
    obtain ⟨i, rfl, hi1, hi2, hgi, HSET, HBW⟩ := hrel
    have hszw := HBW.out.size
    have hsc : ∀ e, i ≤ e → scanTo (fun i => !setB t (toks t) i) (toks t).length i = e → scanTo (fun i => !setB t (toks t) i) (toks t).length k = e := fun e h1 h2 => by
      rw [← h2]
      have : ∀ d k', i - k' = d → k ≤ k' → k' ≤ i → scanTo (fun i => !setB t (toks t) i) (toks t).length k' = scanTo (fun i => !setB t (toks t) i) (toks t).length i := by
        intro d
        induction d with
        | zero =>
          intro k' h1 h2 h3
          obtain rfl : k' = i := by omega
          rfl
        | succ d ih =>
          intro k' h1 h2 h3
          rw [scanTo_step (by have := HL.out; omega) (by rw [HSET.out k' h2 (by omega)]; rfl)]
          exact ih (k' + 1) (by omega) (by omega) (by omega)
      exact this _ k rfl (Nat.le_refl _) hi1
    have HSCF := hid hsc
    have y0w := (HBW.out.cell (p := ⟨g, 0, none⟩) HG4L.out).trans y0
    have y2w := (HBW.out.cell (p := ⟨g, 2, none⟩) HG4L.out).trans y2
    clear hsc
    by_cases hlt : i < L
    · have hlt' : (i : Int) < (L : Int) := by omega
      have HSTL := hid (settled_tok A3 t.size c3 t A5 L cap5 i wr (HBA5.out.below HBW.out (Nat.le_refl _)) (HTR.out.below HBW.out (Nat.le_refl _)) (HMX5.out.below HBW.out (Nat.le_refl _)) (by have := HTS.out; omega) hlt)
      cases hsb : setB t (toks t) i with
      | true =>
        rw [hsb] at HSTL
        have HSB := hid hsb
        clear hsb
        go_wp2_with fail
        refine HSTL.out.mono ?_
        rintro e wr2 ⟨rfl, hb6⟩
        have HB6 := hid (HBW.out.trans (hb6.mono HBW.out.size))
        clear hb6
        go_wp2_with fail
        go_roundg (L - (i + 1))
        case measure => omega
        case rel => exact ⟨i + 1, by go_num, by omega, by omega, Nat.le_refl _, fun j h1 h2 => by
          by_cases hj : j = i
          · subst hj; exact HSB.out
          · exact HSET.out j h1 (by omega), HB6.out⟩
      | false =>
        rw [hsb] at HSTL
        have HSC := HSCF.out i (Nat.le_refl _) (scanTo_stop (by have := HL.out; omega) (by rw [hsb]; rfl))
        clear hsb
        have HBW0 := HBW
        go_wp2_with fail
        refine HSTL.out.mono ?_
        rintro e W0 ⟨rfl, hb6⟩
        have HBW := hid (HBW0.out.trans (hb6.mono HBW0.out.size))
        have HSCH := hid HSC
        clear hb6 y0w y2w y0 y2 HSC HBW0
        have HSC := HSCH.out
        have HST := hid (HNX.out.stop)
        rw [HSC] at HST
        have hil : i ≤ (toks t).length := by rw [← HL.out]; exact hi2
        have HLF := hid (left_tok A5 L cap5 (toks t) i t.size W0 (HTR.out.below HBW.out (Nat.le_refl _)) (fun h => by
          have h1 := toks_begEnd t
          obtain ⟨j, hj⟩ : ∃ j, (toks t).length = j + 1 := ⟨(toks t).length - 1, by omega⟩
          rw [hj] at h1
          unfold begT at h1
          simp only at h1
          rw [List.getElem?_eq_getElem (by omega)] at h1
          simpa [hj] using h1) (fun u hu => by have := toks_mem hu; have := HTS.out; omega) (by have := HL.out; have := toks_len t; have := HTS.out; omega) (by have := HL.out; have := toks_len t; have := HTS.out; omega))
        go_upto_region 9 with fail
        have z6 := (HK4.out.below HBW.out HG4L.out).cell 6
        unfold fdC at z6
        simp only [List.getElem?_toArray, List.getElem?_cons_zero, List.getElem?_cons_succ] at z6
        have zf := (HK4.out.below HBW.out HG4L.out).frozen
        go_wp2_with fail
        refine HLF.out.mono ?_
        rintro e w8 ⟨rfl, hb8⟩
        have HB8 := hid (HBW.out.trans (hb8.mono HBW.out.size))
        have hk8 := HK4.out.below HB8.out HG4L.out
        have z6 := hk8.cell 6
        have zf := hk8.frozen
        unfold fdC at z6
        simp only [List.getElem?_toArray, List.getElem?_cons_zero, List.getElem?_cons_succ] at z6
        have HK9 := hid (show Blk (w8.setCell ⟨g, 6, none⟩ (.int .i64 (leftN (toks t) i t.size))) g 64 (fdC A3 t.size c3 p k (.slice Aw nw cw) wa fn (leftN (toks t) i t.size) false) by have := hk8.set_ 6 (.int .i64 (leftN (toks t) i t.size)); simpa [fdC] using this)
        have HG9 := hid ((grown_of_below HB8.out (some g)).trans (grown_set w8 g 6 (.int .i64 (leftN (toks t) i t.size))))
        clear hk8 hb8
        go_upto_region 10 with fail
        generalize w8.setCell ⟨g, 6, none⟩ (.int .i64 (leftN (toks t) i t.size)) = w9 at *
        clear z6 zf
        have HTR9 := hid (HTR.out.grown HG9.out HA5.out)
        have HBA9 := hid (HBA5.out.grown HG9.out HA3.out)
        have HANS := hid (answer_any g A5 L cap5 t A3 t.size c3 p k i (.slice Aw nw cw) wa fn (leftN (toks t) i t.size) false w9 HK9.out HBA9.out HTR9.out HCAP.out.1 HCAP.out.2 HA5.out HA3.out hi1 hi2 (by have := HTS.out; omega) (by have := HPB.out; omega))
        go_wp2_with fail
        refine HANS.out.mono ?_
        rintro e w10 ⟨v, rfl, hr10, ⟨Ab', cb', hk10, hba10, hab10⟩, hg10⟩
        have HR10 := hid hr10
        have HK10 := hid hk10
        have HBA10 := hid hba10
        have HAB10 := hid hab10
        have HG10 := hid hg10
        clear hr10 hk10 hba10 hab10 hg10
        go_wp2_with fail
        go_ret
        have hne := HNX.out.next i hi1 (by rw [HST.out]; exact Nat.le_refl _)
        have hG := ((HG14.out.trans HG9.out).trans HG10.out)
        have hout := HNX.out.out i hi1 hil
        have hleft := HNX.out.left i
        rw [HST.out] at hout hleft
        have hcut := HNX.out.cut HT.out (j := (nextM (toks t) i).1) (by have := hne.2; omega)
        have hbeg := HNX.out.beg (nextM (toks t) i).1 (by have := hne.2; omega)
        unfold FeedPost
        rw [← HPE.out, HFN.out]
        refine ⟨v, m + (nextM (toks t) i).1, (nextM (toks t) i).2, rfl, ?_, ⟨Ab', t.size - begT (toks t) (nextM (toks t) i).1, cb', A3, t.size, c3, ?_, ?_, ?_, (fun b o e => by obtain ⟨o', e'⟩ := HAB10.out b o e; exact HA3.out b o' e'), HA3.out⟩, hne.1, by have := hne.2; have := HST.out; omega, hG, ?_⟩
        · have h := HR10.out
          rw [hout] at h
          have e3 : setN (s ++ x) - (m + k) = i - k := by have := HST.out; omega
          rw [e3]
          exact owns_base h (by have := HG14.out.size; have := HG9.out.size; omega)
        · rw [← hbeg, ← hleft]
          exact HK10.out
        · rw [← hcut]
          exact HBA10.out
        · rw [← HT.out]
          exact HBA9.out.grown HG10.out HA3.out
        · intro b o n' c' h
          have q0 := HK10.out.cell 0
          have q3 := HK10.out.cell 3
          unfold fdC at q0 q3
          simp only [List.getElem?_toArray, List.getElem?_cons_zero, List.getElem?_cons_succ] at q0 q3
          rcases h with h | h
          · rw [q0] at h
            injection h with h
            injection h with h1 _ _
            obtain ⟨o', e'⟩ := HAB10.out b o h1
            exact HA3L.out b o' e'
          · rw [q3] at h
            injection h with h
            injection h with h1 _ _
            exact HA3L.out b o h1
    · have hiL : i = L := by omega
      have hlt' : ¬ (i : Int) < (L : Int) := by omega
      have HSC := HSCF.out i (Nat.le_refl _) (by have h1 := HL.out; exact scanTo_end (by omega))
      clear hiL hlt
      obtain ⟨W0, hW0⟩ : ∃ W0, W0 = wr := ⟨_, rfl⟩
      rw [← hW0] at HBW y0w y2w ⊢
      clear hW0
      have HSCH := hid HSC
      clear y0 y2 HSC
      go_upto_region 9 with fail
      clear y0w y2w
      have HSC := HSCH.out
      have HST := hid (HNX.out.stop)
      rw [HSC] at HST
      have hil : i ≤ (toks t).length := by rw [← HL.out]; exact hi2
      have HLF := hid (left_tok A5 L cap5 (toks t) i t.size W0 (HTR.out.below HBW.out (Nat.le_refl _)) (fun h => by
        have h1 := toks_begEnd t
        obtain ⟨j, hj⟩ : ∃ j, (toks t).length = j + 1 := ⟨(toks t).length - 1, by omega⟩
        rw [hj] at h1
        unfold begT at h1
        simp only at h1
        rw [List.getElem?_eq_getElem (by omega)] at h1
        simpa [hj] using h1) (fun u hu => by have := toks_mem hu; have := HTS.out; omega) (by have := HL.out; have := toks_len t; have := HTS.out; omega) (by have := HL.out; have := toks_len t; have := HTS.out; omega))
      have z6 := (HK4.out.below HBW.out HG4L.out).cell 6
      unfold fdC at z6
      simp only [List.getElem?_toArray, List.getElem?_cons_zero, List.getElem?_cons_succ] at z6
      have zf := (HK4.out.below HBW.out HG4L.out).frozen
      go_wp2_with fail
      refine HLF.out.mono ?_
      rintro e w8 ⟨rfl, hb8⟩
      have HB8 := hid (HBW.out.trans (hb8.mono HBW.out.size))
      have hk8 := HK4.out.below HB8.out HG4L.out
      have z6 := hk8.cell 6
      have zf := hk8.frozen
      unfold fdC at z6
      simp only [List.getElem?_toArray, List.getElem?_cons_zero, List.getElem?_cons_succ] at z6
      have HK9 := hid (show Blk (w8.setCell ⟨g, 6, none⟩ (.int .i64 (leftN (toks t) i t.size))) g 64 (fdC A3 t.size c3 p k (.slice Aw nw cw) wa fn (leftN (toks t) i t.size) false) by have := hk8.set_ 6 (.int .i64 (leftN (toks t) i t.size)); simpa [fdC] using this)
      have HG9 := hid ((grown_of_below HB8.out (some g)).trans (grown_set w8 g 6 (.int .i64 (leftN (toks t) i t.size))))
      clear hk8 hb8
      go_upto_region 10 with fail
      generalize w8.setCell ⟨g, 6, none⟩ (.int .i64 (leftN (toks t) i t.size)) = w9 at *
      clear z6 zf
      have HTR9 := hid (HTR.out.grown HG9.out HA5.out)
      have HBA9 := hid (HBA5.out.grown HG9.out HA3.out)
      have HANS := hid (answer_any g A5 L cap5 t A3 t.size c3 p k i (.slice Aw nw cw) wa fn (leftN (toks t) i t.size) false w9 HK9.out HBA9.out HTR9.out HCAP.out.1 HCAP.out.2 HA5.out HA3.out hi1 hi2 (by have := HTS.out; omega) (by have := HPB.out; omega))
      go_wp2_with fail
      refine HANS.out.mono ?_
      rintro e w10 ⟨v, rfl, hr10, ⟨Ab', cb', hk10, hba10, hab10⟩, hg10⟩
      have HR10 := hid hr10
      have HK10 := hid hk10
      have HBA10 := hid hba10
      have HAB10 := hid hab10
      have HG10 := hid hg10
      clear hr10 hk10 hba10 hab10 hg10
      go_wp2_with fail
      go_ret
      have hne := HNX.out.next i hi1 (by rw [HST.out]; exact Nat.le_refl _)
      have hG := ((HG14.out.trans HG9.out).trans HG10.out)
      have hout := HNX.out.out i hi1 hil
      have hleft := HNX.out.left i
      rw [HST.out] at hout hleft
      have hcut := HNX.out.cut HT.out (j := (nextM (toks t) i).1) (by have := hne.2; omega)
      have hbeg := HNX.out.beg (nextM (toks t) i).1 (by have := hne.2; omega)
      unfold FeedPost
      rw [← HPE.out, HFN.out]
      refine ⟨v, m + (nextM (toks t) i).1, (nextM (toks t) i).2, rfl, ?_, ⟨Ab', t.size - begT (toks t) (nextM (toks t) i).1, cb', A3, t.size, c3, ?_, ?_, ?_, (fun b o e => by obtain ⟨o', e'⟩ := HAB10.out b o e; exact HA3.out b o' e'), HA3.out⟩, hne.1, by have := hne.2; have := HST.out; omega, hG, ?_⟩
      · have h := HR10.out
        rw [hout] at h
        have e3 : setN (s ++ x) - (m + k) = i - k := by have := HST.out; omega
        rw [e3]
        exact owns_base h (by have := HG14.out.size; have := HG9.out.size; omega)
      · rw [← hbeg, ← hleft]
        exact HK10.out
      · rw [← hcut]
        exact HBA10.out
      · rw [← HT.out]
        exact HBA9.out.grown HG10.out HA3.out
      · intro b o n' c' h
        have q0 := HK10.out.cell 0
        have q3 := HK10.out.cell 3
        unfold fdC at q0 q3
        simp only [List.getElem?_toArray, List.getElem?_cons_zero, List.getElem?_cons_succ] at q0 q3
        rcases h with h | h
        · rw [q0] at h
          injection h with h
          injection h with h1 _ _
          obtain ⟨o', e'⟩ := HAB10.out b o h1
          exact HA3L.out b o' e'
        · rw [q3] at h
          injection h with h
          injection h with h1 _ _
          exact HA3L.out b o h1
end Go.Proofs.YtpnbkecchfhimaaGreatDoor

/- out of FdF -/
namespace Go.Proofs.YtpnbkecchfhimaaGreatDoor
open Go.RowKit Go.Shelf
open Go.Lib (hid)
set_option linter.unusedVariables false
set_option linter.unusedSimpArgs false
set_option maxRecDepth 100000

theorem eql_nil (t : TypeId) (e : TypeId) (ht : Tryz.prog.underlying t = some (.slice e)) (w : World) (a : Option Addr) (n c n' c' : Nat) : (binOp .eql t (.slice a n c) (.slice none n' c')).run Tryz.prog w = .ok (.bool a.isNone) w := Lib.run_eql_slice_nil w _ _ a n c n' c' ht
theorem bclone_any (A : Option Addr) (n cap : Nat) (s : ByteArray) (w : World) (hba : BA w A n cap s) (hn : n ≤ 1000000) :
    Calls Tryz.prog 43 #[.slice A n cap] w fun e w' => ∃ v, e = .returned v ∧ w'.ownsRow w.heap.size 5 1 v s.size (u8s s) ∧ Below w.heap.size w w' := by
  obtain ⟨i0, hi, hz0, hz1, hz2⟩ := info_parts info_u8
  have hq := eql_nil 22 5 Tryz.underlying22
  have HN := hid hba.1
  have HRD := hid hba.reads
  cases A with
  | none =>
    have h0 : n = 0 := by
      rcases Nat.eq_zero_or_pos n with h | h
      · exact h
      · obtain ⟨b, off, e, _⟩ := hba.2.2.2 h
        cases e
    have HS0 := hid (show s.size = 0 by rw [← hba.1]; exact h0)
    clear hba h0
    go_enter Tryz.func43, Tryz.ntmps43
    go_wp2_with fail
    go_ret
    refine ⟨_, rfl, ?_, Below.refl _ _⟩
    have hu : u8s s = [] := List.eq_nil_of_length_eq_zero (by rw [u8s_len]; exact HS0.out)
    rw [HS0.out, hu]
    exact World.ownsRow_nil _ _ _ _
  | some a =>
    have HE := hid (owns_empty w 5 1)
    have HRD1 := hid (show Reads (w.alloc (.cells #[] 5)) w.heap.size 1 (some a) n (u8s s) from HRD.out.alloc (Nat.le_refl _) _)
    have hs1 : (w.alloc (.cells #[] 5)).heap.size = w.heap.size + 1 := by simp
    have HB1 := hid ((Below.refl w.heap.size w).alloc (Nat.le_refl _) (.cells #[] 5))
    clear hba
    go_enter Tryz.func43, Tryz.ntmps43
    go_wp2_with (at_builtin; go_must (refine wpList_append_any _ rfl (.tmp 5) (.tmp 6) 22 rfl w.heap.size 5 i0 (.int .u8 0) 1 1 Tryz.underlying22 hi hz0 hz1 hz2 rfl (by decide) _ 0 [] rfl HE.out _ (some a) n cap (u8s s) rfl HRD1.out (u8s_one _) (by unfold maxLen; omega) (by omega) (by omega) ?_); intro v6 w6 hown6 hgrow6 _)
    go_ret
    refine ⟨v6, rfl, ?_, HB1.out.grown hgrow6 (by omega) (fun k e => by cases e; exact Nat.le_refl _)⟩
    rw [← HN.out]
    simpa using hown6
theorem slice_ba {W : World} {A : Option Addr} {n c : Nat} {s : ByteArray} (h : BA W A n c s) {i e : Nat} (h1 : i ≤ e) (h2 : e ≤ n) :
    ∃ A' c', (∀ W' : World, (Instr.slice 22 (.slice A n c) (some (.int .i64 i)) (some (.int .i64 e)) none).run Tryz.prog W' = .ok (.slice A' (e - i) c') W') ∧ BA W A' (e - i) c' (s.extract i e) := by
  obtain ⟨b1, b2, b3, b4⟩ := h
  refine ⟨if c = i then A else A.map (·.add i), c - i, fun W' => ?_, ?_⟩
  · rw [run_slice_lh (P := Tryz.prog) W' 22 _ n c rfl .i64 .i64 i e (by omega) (by omega) (by omega)]
    have hs : (sizeOf (Tryz.prog.elem 22)).run Tryz.prog W' = .ok 1 W' := by go_simp
    rw [hs]
    by_cases hc : c = i
    · subst hc
      simp [Result.andThen, sliced]
    · simp only [Result.andThen, sliced, Int.toNat_natCast, if_neg hc, Nat.mul_one]
      try simp
  · by_cases h0 : i = e
    · subst h0
      exact ⟨by rw [ByteArray.size_extract]; omega, by omega, by omega, fun h => by omega⟩
    · obtain ⟨b, off, rfl, hb, hz⟩ := b4 (by omega)
      rw [if_neg (by omega)]
      have := ba_segF hz hb b1 b2 b3 h1 h2
      rw [Option.map_some, show (Addr.add ⟨b, off, none⟩ i) = ⟨b, off + i, none⟩ by unfold Addr.add; split <;> simp_all]
      exact this
theorem conv_ba {W : World} {A : Option Addr} {n c : Nat} {s : ByteArray} (h : BA W A n c s) : (convert 22 9 (.slice A n c)).run Tryz.prog W = .ok (.string s) W := by
  by_cases h0 : n = 0
  · subst h0
    have hs : s = ⟨#[]⟩ := by
      have h1 : s.size = 0 := h.1.symm
      apply ByteArray.ext
      exact Array.eq_empty_of_size_eq_zero h1
    subst hs
    clear h
    cases A <;> first | rfl | (simp [convert]; done) | kernel_rfl
  · obtain ⟨b1, b2, b3, b4⟩ := h
    obtain ⟨b, off, rfl, hb, hz⟩ := b4 (by omega)
    have := conv_sub hz 0 n c (Nat.zero_le _) (by omega)
    rw [Nat.add_zero, Nat.sub_zero, b1] at this
    rw [b1, this, ByteArray.extract_zero_size]
theorem BA.nil (W : World) : BA W none 0 0 ⟨#[]⟩ := ⟨rfl, Nat.le_refl _, by decide, fun h => absurd h (by decide)⟩
set_option maxHeartbeats 8000000 in
theorem close_any (g : Nat) (s : ByteArray) (m k : Nat) (was : ByteArray) (wa : Nat) (fd wt : Int) (w : World) (hf : FdAt w g s m k was wa fd wt false) (hok : FdOk s m k) (hmx : Mx w) (hgm : g ≠ 0) (hm : s.size ≤ 400000) :
    Calls Tryz.prog 15 #[.pointer (some ⟨g, 0, none⟩)] w fun e w' => ∃ v m' k', e = .returned v ∧ w'.ownsRow w.heap.size 29 6 v ((toks s).length - (m + k)) (tkCells ((toks s).drop (m + k))) ∧
      FdAt w' g s m' k' (s.extract (begT (toks s) m) s.size) (begT (toks s) m) fd 0 true ∧ w.grownBy w' (some g) := by
  obtain ⟨Ab, nb, cb, Aw, nw, cw, h1, h2, h3, h4, h5⟩ := hf
  have hgl := h1.lt
  obtain ⟨p, hp⟩ : ∃ p, p = begT (toks s) m := ⟨_, rfl⟩
  obtain ⟨t, ht⟩ : ∃ t, t = s.extract p s.size := ⟨_, rfl⟩
  have hnx := hok.feed (s' := s) ⟨Nat.le_refl _, fun i hi => rfl⟩ hp ht
  have hps : p ≤ s.size := by rw [hp]; exact begT_le (by have := hok.le; omega)
  rw [← hp] at h1 h2 ⊢
  rw [← ht] at h2 ⊢
  have x0 := h1.cell 0
  have x6 := h1.cell 6
  have x7 := h1.cell 7
  have xf := h1.frozen
  unfold fdC at x0 x6 x7
  simp only [List.getElem?_toArray, List.getElem?_cons_zero, List.getElem?_cons_succ] at x0 x6 x7
  have H1 := hid h1
  have H2 := hid h2
  have H3 := hid h3
  have H4 := hid h4
  have HNX := hid hnx
  have HT := hid ht
  have hts : t.size ≤ 400000 := by rw [ht, ext_size]; omega
  have HTS := hid hts
  have HPB := hid (show p ≤ 400000 by omega)
  have HGM := hid hgm
  have HMX := hid hmx
  have HNB := hid h2.1
  clear h1 h2 h3 h4 h5 hnx ht hmx hps hok hm hp hgm hts
  go_enter Tryz.func15, Tryz.ntmps15
  go_upto_region 4 with fail
  have HK1 := hid (show Blk (w.setCell ⟨g, 7, none⟩ (.bool true)) g 64 (fdC Ab nb cb p k (.slice Aw nw cw) wa fd wt true) by have := H1.out.set_ 7 (.bool true); simpa [fdC] using this)
  have HG1 := hid (grown_set w g 7 (.bool true))
  generalize w.setCell ⟨g, 7, none⟩ (.bool true) = w1 at *
  clear x0 x6 x7 xf
  have x6 := HK1.out.cell 6
  have xf := HK1.out.frozen
  unfold fdC at x6
  simp only [List.getElem?_toArray, List.getElem?_cons_zero, List.getElem?_cons_succ] at x6
  go_upto_region 5 with fail
  have HK2 := hid (show Blk (w1.setCell ⟨g, 6, none⟩ (.int .i64 0)) g 64 (fdC Ab nb cb p k (.slice Aw nw cw) wa fd 0 true) by have := HK1.out.set_ 6 (.int .i64 0); simpa [fdC] using this)
  have HG2 := hid (HG1.out.trans (grown_set w1 g 6 (.int .i64 0)))
  generalize w1.setCell ⟨g, 6, none⟩ (.int .i64 0) = w4 at *
  clear x6 xf HK1 HG1
  have HBA4 := hid (H2.out.grown HG2.out H4.out)
  have y0 := HK2.out.cell 0
  unfold fdC at y0
  simp only [List.getElem?_toArray, List.getElem?_cons_zero, List.getElem?_cons_succ] at y0
  have hmx4 : Mx w4 := by
    obtain ⟨mm, hmm⟩ := HMX.out
    exact ⟨mm, (World.cell?_of_block (HG2.out.block _ (World.block_lt_of_cell? _ _ hmm) (fun e => HGM.out (by injection e with e; exact e.symm)))).trans hmm⟩
  have HALL := hid (tokAll_any Ab nb cb t w4 HBA4.out hmx4 (by have := HTS.out; have := HNB.out; omega))
  have hg4l := HK2.out.lt
  go_wp2_with fail
  refine HALL.out.mono ?_
  rintro e w5 ⟨v, rfl, hmd, hb5⟩
  obtain ⟨A5, cap5, rfl, htr5, hc5, hc6, hA5⟩ := slice_form hmd
  have HTR := hid htr5
  have HA5 := hid (show ∀ b, A5 = some ⟨b, 0, none⟩ → b ≠ g from fun b e => by have := hA5 b e; omega)
  have HK5 := hid (HK2.out.below hb5 hg4l)
  have HBA5 := hid (HBA4.out.below hb5 (Nat.le_refl _))
  have HG5 := hid (HG2.out.trans (grown_of_below hb5 (some g)))
  have HANS := hid (answer_any g A5 (toks t).length cap5 t Ab nb cb p k (toks t).length (.slice Aw nw cw) wa fd 0 true w5 HK5.out HBA5.out HTR.out hc5 hc6 HA5.out H4.out HNX.out.kle (Nat.le_refl _) (by have := HTS.out; omega) (by have := HPB.out; omega))
  clear hmd htr5 hc5 hc6 hA5 hb5 hmx4 HALL y0
  obtain ⟨L, hL⟩ : ∃ L, L = (toks t).length := ⟨_, rfl⟩
  have HL := hid hL
  rw [← hL] at HANS ⊢
  clear hL
  go_wp2_with fail
  refine HANS.out.mono ?_
  rintro e w10 ⟨v, rfl, hr10, ⟨Ab', cb', hk10, hba10, hab10⟩, hg10⟩
  have HR10 := hid hr10
  have HK10 := hid hk10
  have HBA10 := hid hba10
  have HAB10 := hid hab10
  have HG10 := hid hg10
  clear hr10 hk10 hba10 hab10 hg10
  go_wp2_with fail
  go_ret
  have hkl := HNX.out.kle
  have hll := HNX.out.len
  have hml := HNX.out.mle
  have hout := HNX.out.out (toks t).length hkl (Nat.le_refl _)
  have h9 : (toks s).take (m + (toks t).length) = toks s := by rw [show m + (toks t).length = (toks s).length by omega]; exact List.take_length
  rw [h9] at hout
  have hn1 : (nextM (toks t) L).1 ≤ (toks t).length := by
    rw [HL.out]
    cases (toks t).length with
    | zero => exact Nat.zero_le _
    | succ j =>
      unfold nextM
      simp only
      split <;> simp
  have hcut := HNX.out.cut HT.out (j := (nextM (toks t) L).1) hn1
  have hbeg := HNX.out.beg (nextM (toks t) L).1 hn1
  refine ⟨v, m + (nextM (toks t) L).1, (nextM (toks t) L).2, rfl, ?_, ⟨Ab', nb - begT (toks t) (nextM (toks t) L).1, cb', Ab, nb, cb, ?_, ?_, ?_, (fun b o e => by obtain ⟨o', e'⟩ := HAB10.out b o e; exact H4.out b o' e'), H4.out⟩, HG5.out.trans HG10.out⟩
  · have h := HR10.out
    have h3 : (((toks t).take L).drop k).map (Tk.up p) = (toks s).drop (m + k) := by rw [HL.out]; exact hout
    rw [h3] at h
    have e3 : (toks s).length - (m + k) = L - k := by have := HL.out; omega
    rw [e3]
    exact owns_base h HG5.out.size
  · rw [← hbeg]
    exact HK10.out
  · rw [← hcut]
    exact HBA10.out
  · exact HBA5.out.grown HG10.out H4.out
/-- The bytes of a token of the last answer. -/
def bytesF (was : ByteArray) (wa : Nat) (fr til : Int) : ByteArray := if (wa : Int) ≤ fr ∧ fr ≤ til ∧ til ≤ ((wa + was.size : Nat) : Int) then was.extract (fr.toNat - wa) (til.toNat - wa) else ⟨#[]⟩
set_option maxHeartbeats 8000000 in
theorem fbytes_any (g : Nat) (s : ByteArray) (m k : Nat) (was : ByteArray) (wa : Nat) (fd wt : Int) (cl : Bool) (kd fr til : Int) (nm : ByteArray) (r : Int) (sg : Bool) (w : World) (hf : FdAt w g s m k was wa fd wt cl) (hwa : wa ≤ 400000) (hws : was.size ≤ 400000) :
    Calls Tryz.prog 20 #[.pointer (some ⟨g, 0, none⟩), .agg #[.int .i64 kd, .int .i64 fr, .int .i64 til, .string nm, .int .i32 r, .bool sg]] w fun e w' => ∃ A n c, e = .returned (.slice A n c) ∧ BA w' A n c (bytesF was wa fr til) ∧ Below w.heap.size w w' := by
  obtain ⟨Ab, nb, cb, Aw, nw, cw, h1, h2, h3, h4, h5⟩ := hf
  have hb1 : Below w.heap.size w (w.alloc (.cells #[.int .i64 kd, .int .i64 fr, .int .i64 til, .string nm, .int .i32 r, .bool sg] 29)) := (Below.refl _ _).alloc (Nat.le_refl _) _
  have q := Blk.new w 29 #[.int .i64 kd, .int .i64 fr, .int .i64 til, .string nm, .int .i32 r, .bool sg]
  have z1 := q.cell 1
  have z2 := q.cell 2
  have hk := h1.below hb1 h1.lt
  have y3 := hk.cell 3
  have y4 := hk.cell 4
  unfold fdC at y3 y4
  simp only [List.getElem?_toArray, List.getElem?_cons_zero, List.getElem?_cons_succ] at z1 z2 y3 y4
  have HB1 := hid hb1
  have hn := h3.1
  have hnn : wa + was.size = wa + nw := by omega
  have hw1 : (wa : Int) + (nw : Int) = ((wa + nw : Nat) : Int) := by omega
  have hw2 : IntKind.i64.wrap ((wa + nw : Nat) : Int) = ((wa + nw : Nat) : Int) := IntWalk.i64_in _ (by omega)
  have H3 := hid (h3.below hb1 (Nat.le_refl _))
  have hnw : nw ≤ 400000 := by omega
  have HFALSE : ¬ ((wa : Int) ≤ fr ∧ fr ≤ til ∧ til ≤ ((wa + nw : Nat) : Int)) → Hid (bytesF was wa fr til = ⟨#[]⟩) := fun h => by
    show _ = _
    unfold bytesF
    rw [hnn, if_neg h]
  have HTRUE : ((wa : Int) ≤ fr ∧ fr ≤ til ∧ til ≤ ((wa + nw : Nat) : Int)) → Hid (bytesF was wa fr til = was.extract (fr.toNat - wa) (til.toNat - wa)) := fun h => by
    show _ = _
    unfold bytesF
    rw [hnn, if_pos h]
  have HF := hid HFALSE
  have HTT := hid HTRUE
  clear h1 h2 h3 h4 h5 hb1 q hk HFALSE HTRUE hn hnn hws
  generalize hwn : wa + nw = wn at *
  have HWN := hid hwn
  clear hwn
  go_enter Tryz.func20, Tryz.ntmps20
  go_upto_region 1 with fail
  generalize w.alloc (.cells #[.int .i64 kd, .int .i64 fr, .int .i64 til, .string nm, .int .i32 r, .bool sg] 29) = w1 at *
  by_cases c1 : fr < (wa : Int)
  · have hd1 : decide (fr < (wa : Int)) = true := decide_eq_true c1
    have HR := HF.out (by omega)
    go_quiet (fail)
    go_wp2_with fail
    go_ret
    exact ⟨none, 0, 0, rfl, by rw [HR.out]; exact BA.nil _, HB1.out.trans (below_drewN _ w1 nq)⟩
  have hd1 : decide (fr < (wa : Int)) = false := decide_eq_false c1
  by_cases c2 : til < fr
  · have hd2 : decide (til < fr) = true := decide_eq_true c2
    have HR := HF.out (by omega)
    go_quiet (fail)
    go_wp2_with fail
    go_ret
    exact ⟨none, 0, 0, rfl, by rw [HR.out]; exact BA.nil _, HB1.out.trans (below_drewN _ w1 nq)⟩
  have hd2 : decide (til < fr) = false := decide_eq_false c2
  by_cases c3 : (wn : Int) < til
  · have hd3 : decide ((wn : Int) < til) = true := decide_eq_true c3
    have HR := HF.out (by omega)
    go_quiet (fail)
    go_wp2_with fail
    go_ret
    exact ⟨none, 0, 0, rfl, by rw [HR.out]; exact BA.nil _, HB1.out.trans (below_drewN _ w1 nq)⟩
  have hd3 : decide ((wn : Int) < til) = false := decide_eq_false c3
  have HR := HTT.out (by omega)
  obtain ⟨a, ha⟩ : ∃ a : Nat, fr - (wa : Int) = (a : Int) := ⟨(fr - wa).toNat, by omega⟩
  obtain ⟨b, hb⟩ : ∃ b : Nat, til - (wa : Int) = (b : Int) := ⟨(til - wa).toNat, by omega⟩
  have hab : a ≤ b := by omega
  have hbn : b ≤ nw := by have := HWN.out; omega
  have ea : fr.toNat - wa = a := by omega
  have eb : til.toNat - wa = b := by omega
  rw [ea, eb] at HR
  have hwa1 : IntKind.i64.wrap (a : Int) = a := IntWalk.i64_in _ (by omega)
  have hwb1 : IntKind.i64.wrap (b : Int) = b := IntWalk.i64_in _ (by omega)
  obtain ⟨A', c', hsl, hba'⟩ := slice_ba H3.out hab hbn
  obtain ⟨z, hz⟩ : ∃ z, z = was.extract a b := ⟨_, rfl⟩
  rw [← hz] at hba' HR
  have HBA' := hid hba'
  clear hba' hab hbn ea eb hz HF HTT
  go_quiet (fail)
  go_upto_region 3 with fail
  have HCL := hid (fun W (h : Below w1.heap.size w1 W) => bclone_any A' (b - a) c' z W (HBA'.out.below h (Nat.le_refl _)) (by omega))
  refine wp_region_held_drew (S := fun w' : World => w'.cell? ⟨g, 3, none⟩ = some (.slice Aw nw cw) ∧ w'.cell? ⟨g, 4, none⟩ = some (.int .i64 wa) ∧ w'.cell? ⟨w.heap.size, 1, none⟩ = some (.int .i64 fr) ∧ w'.cell? ⟨w.heap.size, 2, none⟩ = some (.int .i64 til)) (by kernel_rfl) ⟨y3, y4, z1, z2⟩ (fun hHeld => ?_)
  refine wpAnyH_take (i := 0) (v := ?hv1) rfl (by kernel_rfl) (by kernel_rfl) (by kernel_rfl) (fun _ _ _ h => h) (Or.inl ⟨by rfl, ?hy1⟩) (by assumption) ?hr1
  case hy1 => (intro w hSw; (try dsimp only at hSw); go_simp; try with_reducible rfl)
  (try simp only [Act.put, List.getElem_toArray, List.getElem_cons_zero, List.setIfInBounds_toArray, List.set_cons_zero, List.set_cons_succ])
  refine wpAnyH_take (i := 1) (v := ?hv2) rfl (by kernel_rfl) (by kernel_rfl) (by kernel_rfl) (fun _ _ _ h => h) (Or.inl ⟨by rfl, ?hy2⟩) (by assumption) ?hr2
  case hy2 => (intro w hSw; (try dsimp only at hSw); go_simp; try with_reducible rfl)
  (try simp only [Act.put, List.getElem_toArray, List.getElem_cons_zero, List.getElem_cons_succ, List.setIfInBounds_toArray, List.set_cons_zero, List.set_cons_succ])
  refine wpAnyH_take (i := 2) (v := ?hv3) rfl (by kernel_rfl) (by kernel_rfl) (by kernel_rfl) (fun _ _ _ h => h) (Or.inl ⟨by rfl, ?hy3⟩) (by assumption) ?hr3
  case hy3 => (intro w hSw; (try dsimp only at hSw); go_simp; try with_reducible rfl)
  (try simp only [Act.put, List.getElem_toArray, List.getElem_cons_zero, List.getElem_cons_succ, List.setIfInBounds_toArray, List.set_cons_zero, List.set_cons_succ])
  refine wpAnyH_take (i := 3) (v := ?hv4) rfl (by kernel_rfl) (by kernel_rfl) (by kernel_rfl) (fun _ _ _ h => h) (Or.inl ⟨by rfl, ?hy4⟩) (by assumption) ?hr4
  case hy4 => (intro w hSw; (try dsimp only at hSw); go_simp; try with_reducible rfl)
  (try simp only [Act.put, List.getElem_toArray, List.getElem_cons_zero, List.getElem_cons_succ, List.setIfInBounds_toArray, List.set_cons_zero, List.set_cons_succ])
  refine wpAnyH_take (i := 4) (v := ?hv5) rfl (by kernel_rfl) (by kernel_rfl) (by kernel_rfl) (fun _ _ _ h => h) (Or.inl ⟨by rfl, ?hy5⟩) (by assumption) ?hr5
  case hy5 => (intro w hSw; (try dsimp only at hSw); go_simp; try with_reducible rfl)
  (try simp only [Act.put, List.getElem_toArray, List.getElem_cons_zero, List.getElem_cons_succ, List.setIfInBounds_toArray, List.set_cons_zero, List.set_cons_succ])
  refine wpAnyH_take (i := 5) (v := ?hv6) rfl (by kernel_rfl) (by kernel_rfl) (by kernel_rfl) (fun _ _ _ h => h) (Or.inl ⟨by rfl, ?hy6⟩) (by assumption) ?hr6
  case hy6 => (intro w hSw; (try dsimp only at hSw); go_simp; try with_reducible rfl)
  (try simp only [Act.put, List.getElem_toArray, List.getElem_cons_zero, List.getElem_cons_succ, List.setIfInBounds_toArray, List.set_cons_zero, List.set_cons_succ])
  refine wpAnyH_take (i := 6) (v := ?hv7) rfl (by kernel_rfl) (by kernel_rfl) (by kernel_rfl) (fun _ _ _ h => h) (Or.inl ⟨by rfl, ?hy7⟩) (by assumption) ?hr7
  case hy7 => (intro w hSw; (try dsimp only at hSw); go_simp; try with_reducible rfl)
  (try simp only [Act.put, List.getElem_toArray, List.getElem_cons_zero, List.getElem_cons_succ, List.setIfInBounds_toArray, List.set_cons_zero, List.set_cons_succ])
  refine wpAnyH_take (i := 7) (v := ?hv8) rfl (by kernel_rfl) (by kernel_rfl) (by kernel_rfl) (fun _ _ _ h => h) (Or.inl ⟨by rfl, ?hy8⟩) (by assumption) ?hr8
  case hy8 => (intro w hSw; (try dsimp only at hSw); go_simp; try with_reducible rfl)
  (try simp only [Act.put, List.getElem_toArray, List.getElem_cons_zero, List.getElem_cons_succ, List.setIfInBounds_toArray, List.set_cons_zero, List.set_cons_succ])
  refine wpAnyH_take (i := 8) (v := ?hv9) rfl (by kernel_rfl) (by kernel_rfl) (by kernel_rfl) (fun _ _ _ h => h) (Or.inl ⟨by rfl, ?hy9⟩) (by assumption) ?hr9
  case hy9 => (intro w hSw; (try dsimp only at hSw); go_simp; try with_reducible rfl)
  (try simp only [Act.put, List.getElem_toArray, List.getElem_cons_zero, List.getElem_cons_succ, List.setIfInBounds_toArray, List.set_cons_zero, List.set_cons_succ])
  refine wpAnyH_take (i := 9) (v := ?hv10) rfl (by kernel_rfl) (by kernel_rfl) (by kernel_rfl) (fun _ _ _ h => h) (Or.inl ⟨by rfl, ?hy10⟩) (by assumption) ?hr10
  case hy10 => (intro w hSw; (try dsimp only at hSw); go_simp; try with_reducible rfl)
  (try simp only [Act.put, List.getElem_toArray, List.getElem_cons_zero, List.getElem_cons_succ, List.setIfInBounds_toArray, List.set_cons_zero, List.set_cons_succ])
  refine wpAnyH_take (i := 10) (v := ?hv11) rfl (by kernel_rfl) (by kernel_rfl) (by kernel_rfl) (fun _ _ _ h => h) (Or.inl ⟨by rfl, ?hy11⟩) (by assumption) ?hr11
  case hy11 => (intro w hSw; (try dsimp only at hSw); go_simp; try with_reducible rfl)
  (try simp only [Act.put, List.getElem_toArray, List.getElem_cons_zero, List.getElem_cons_succ, List.setIfInBounds_toArray, List.set_cons_zero, List.set_cons_succ])
  refine wpAnyH_take (i := 11) (v := ?hv12) rfl (by kernel_rfl) (by kernel_rfl) (by kernel_rfl) (fun _ _ _ h => h) (Or.inl ⟨by rfl, ?hy12⟩) (by assumption) ?hr12
  case hy12 => (intro w hSw; (try dsimp only at hSw); go_simp; try with_reducible rfl)
  (try simp only [Act.put, List.getElem_toArray, List.getElem_cons_zero, List.getElem_cons_succ, List.setIfInBounds_toArray, List.set_cons_zero, List.set_cons_succ])
  refine wpAnyH_take (i := 12) (v := ?hv13) rfl (by kernel_rfl) (by kernel_rfl) (by kernel_rfl) (fun _ _ _ h => h) (Or.inl ⟨by rfl, ?hy13⟩) (by assumption) ?hr13
  case hy13 => (intro w hSw; (try dsimp only at hSw); go_simp; try with_reducible rfl)
  (try simp only [Act.put, List.getElem_toArray, List.getElem_cons_zero, List.getElem_cons_succ, List.setIfInBounds_toArray, List.set_cons_zero, List.set_cons_succ])
  refine wpAnyH_take (i := 13) (v := ?hv14) rfl (by kernel_rfl) (by kernel_rfl) (by kernel_rfl) (fun _ _ _ h => h) (Or.inl ⟨by rfl, ?hy14⟩) (by assumption) ?hr14
  case hy14 => (intro w hSw; (try dsimp only at hSw); go_simp; try with_reducible rfl)
  (try simp only [Act.put, List.getElem_toArray, List.getElem_cons_zero, List.getElem_cons_succ, List.setIfInBounds_toArray, List.set_cons_zero, List.set_cons_succ])
  refine wpAnyH_take (i := 14) (v := ?hv15) rfl (by kernel_rfl) (by kernel_rfl) (by kernel_rfl) (fun _ _ _ h => h) (Or.inl ⟨by rfl, ?hy15⟩) (by assumption) ?hr15
  case hy15 => (intro w hSw; (try dsimp only at hSw); go_simp; try with_reducible rfl)
  (try simp only [Act.put, List.getElem_toArray, List.getElem_cons_zero, List.getElem_cons_succ, List.setIfInBounds_toArray, List.set_cons_zero, List.set_cons_succ])
  refine wpAnyH_take (i := 15) (v := ?hv16) rfl (by kernel_rfl) (by kernel_rfl) (by kernel_rfl) (fun _ _ _ h => h) (Or.inl ⟨by rfl, ?hy16⟩) (by assumption) ?hr16
  case hy16 => (intro w hSw; (try dsimp only at hSw); go_simp; try with_reducible rfl)
  (try simp only [Act.put, List.getElem_toArray, List.getElem_cons_zero, List.getElem_cons_succ, List.setIfInBounds_toArray, List.set_cons_zero, List.set_cons_succ])
  refine wpAnyH_take (i := 16) (v := ?hv17) rfl (by kernel_rfl) (by kernel_rfl) (by kernel_rfl) (fun _ _ _ h => h) (Or.inl ⟨by rfl, ?hy17⟩) (by assumption) ?hr17
  case hy17 => (intro w hSw; (try dsimp only at hSw); go_simp; try with_reducible rfl)
  (try simp only [Act.put, List.getElem_toArray, List.getElem_cons_zero, List.getElem_cons_succ, List.setIfInBounds_toArray, List.set_cons_zero, List.set_cons_succ])
  refine wpAnyH_take (i := 17) (v := ?hv18) rfl (by kernel_rfl) (by kernel_rfl) (by kernel_rfl) (fun _ _ _ h => h) (Or.inl ⟨by rfl, ?hy18⟩) (by assumption) ?hr18
  case hy18 => (intro w hSw; (try dsimp only at hSw); go_simp; try with_reducible rfl)
  (try simp only [Act.put, List.getElem_toArray, List.getElem_cons_zero, List.getElem_cons_succ, List.setIfInBounds_toArray, List.set_cons_zero, List.set_cons_succ])
  refine wpAnyH_take (i := 18) (v := ?hv19) rfl (by kernel_rfl) (by kernel_rfl) (by kernel_rfl) (fun _ _ _ h => h) (Or.inl ⟨by rfl, ?hy19⟩) (by assumption) ?hr19
  case hy19 => (intro w hSw; (try dsimp only at hSw); go_simp; try with_reducible rfl)
  (try simp only [Act.put, List.getElem_toArray, List.getElem_cons_zero, List.getElem_cons_succ, List.setIfInBounds_toArray, List.set_cons_zero, List.set_cons_succ])
  refine wpAnyH_take (i := 19) (v := ?hv20) rfl (by kernel_rfl) (by kernel_rfl) (by kernel_rfl) (fun _ _ _ h => h) (Or.inl ⟨by rfl, ?hy20⟩) (by assumption) ?hr20
  case hy20 => (intro w hSw; (try dsimp only at hSw); go_simp; try with_reducible rfl)
  (try simp only [Act.put, List.getElem_toArray, List.getElem_cons_zero, List.getElem_cons_succ, List.setIfInBounds_toArray, List.set_cons_zero, List.set_cons_succ])
  refine wpAnyH_take (i := 20) (v := ?hv21) rfl (by kernel_rfl) (by kernel_rfl) (by kernel_rfl) (fun _ _ _ h => h) (Or.inl ⟨by rfl, ?hy21⟩) (by assumption) ?hr21
  case hy21 => (intro w hSw; (try dsimp only at hSw); go_simp; try with_reducible rfl)
  (try simp only [Act.put, List.getElem_toArray, List.getElem_cons_zero, List.getElem_cons_succ, List.setIfInBounds_toArray, List.set_cons_zero, List.set_cons_succ])
  refine wpAnyH_take (i := 21) (v := ?hv22) rfl (by kernel_rfl) (by kernel_rfl) (by kernel_rfl) (fun _ _ _ h => h) (Or.inl ⟨by rfl, ?hy22⟩) (by assumption) ?hr22
  case hy22 => (intro w hSw; (try dsimp only at hSw); go_simp; try with_reducible rfl)
  (try simp only [Act.put, List.getElem_toArray, List.getElem_cons_zero, List.getElem_cons_succ, List.setIfInBounds_toArray, List.set_cons_zero, List.set_cons_succ])
  refine wpAnyH_ready (rs := [22]) (by kernel_rfl) (by simp) ?_
  refine AllReadyH.cons rfl (fun K hK => ?_) AllReadyH.nil
  go_simp
  go_at_call 43
  refine (HCL.out _ (below_drewN _ w1 nq).drew).mono ?_
  rintro e w5 ⟨v, rfl, hr, hb5⟩
  obtain ⟨A5, c5, rfl⟩ := owns_slice hr
  have HBA5 := hid (BA.of_own hr)
  have hb15 : Below w1.heap.size w1 w5 := (below_drewN w1.heap.size w1 nq).drew.trans hb5
  have HB5 := hid (HB1.out.trans (hb15.mono HB1.out.size))
  have hgl : ∀ (p : Addr) (v : Value), w1.cell? p = some v → w5.cell? p = some v := fun p v h => (hb15.cell (World.block_lt_of_cell? _ _ h)).trans h
  have HS5 := hid (And.intro (hgl _ _ y3) (And.intro (hgl _ _ y4) (And.intro (hgl _ _ z1) (hgl _ _ z2))))
  clear hr hb5 hb15 hgl
  go_wp2_with fail
  refine hK.out _ _ HS5.out (fun hHeld2 => ?_)
  clear hK K hHeld
  refine wpAnyH_take (i := 23) (v := ?hv23) rfl (by kernel_rfl) (by kernel_rfl) (by kernel_rfl) (fun _ _ _ h => h) (Or.inl ⟨by rfl, ?hy23⟩) (by assumption) ?hr23
  case hy23 => (intro w hSw; (try dsimp only at hSw); go_simp; try with_reducible rfl)
  (try simp only [Act.put, List.getElem_toArray, List.getElem_cons_zero, List.getElem_cons_succ, List.setIfInBounds_toArray, List.set_cons_zero, List.set_cons_succ])
  refine wpAnyH_done (by kernel_rfl) ?_ _
  clear hHeld2
  go_wp2_with fail
  go_ret
  exact ⟨_, _, _, rfl, by rw [HR.out]; exact HBA5.out, HB5.out⟩
end Go.Proofs.YtpnbkecchfhimaaGreatDoor
