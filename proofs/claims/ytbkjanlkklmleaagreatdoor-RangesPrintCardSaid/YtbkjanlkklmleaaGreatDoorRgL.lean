/- Chapter 02: a text's set: walks. -/
import Derived.Test.YtbkjanlkklmleaaGreatDoorRgK
import Derived.Test.YtbkjanlkklmleaaGreatDoorPiB
import Derived.Test.YtbkjanlkklmleaaGreatDoorRgPz
import Derived.Test.YtbkjanlkklmleaaGreatDoorRgW
import Derived.Shelf.Strings.Split
import Derived.Shelf.Strings.Cut
import Derived.Lib.SplitLaws
namespace Go.Proofs.YtbkjanlkklmleaaGreatDoor
open Go.RowKit
open Go.Shelf
open Go.Lib (hid)
set_option linter.unusedVariables false
set_option maxRecDepth 100000

theorem number_any (s : ByteArray) (hs : s.size ≤ 100000) (w : World) (hv : ErrV w) : Calls Tryz.prog 20 #[.string s] w fun e w' => ∃ v : Int, e = .returned (.int .i32 v) ∧ -2147483648 ≤ v ∧ v ≤ 2147483647 ∧ (goodX s → v = dxN (intsOf s)) ∧ Below w.heap.size w w' := by
  have HP := hid (sparseIntX_any s hs w hv)
  clear hv
  go_enter Tryz.func20, Tryz.ntmps20
  go_wp2_with fail
  refine HP.out.mono ?_
  rintro e w2 ⟨n, er, rfl, her, n0, n1, hgd, hb2⟩
  have HGD := hid hgd
  have HB2 := hid hb2
  have e32 : IntKind.i32.wrap n = n := wrap32 n0 n1
  clear hgd hb2
  rcases her with rfl | ⟨te, pe, rfl⟩
  · go_wp2_with fail
    go_ret
    exact ⟨n, rfl, n0, n1, fun g => (HGD.out g).2, HB2.out⟩
  · go_wp2_with fail
    go_ret
    exact ⟨-1, rfl, by decide, by decide, fun g => (by have := (HGD.out g).1; cases this), HB2.out⟩
def comB : ByteArray := ⟨#[44]⟩
def dashB : ByteArray := ⟨#[45]⟩
def piecesB (s : ByteArray) : List ByteArray := Lib.splitB comB 0 (Lib.countB s comB) s
theorem splitB_small (sep : ByteArray) (N : Nat) : ∀ (k : Nat) (s : ByteArray), s.size ≤ N → ∀ p ∈ Lib.splitB sep 0 k s, p.size ≤ N
  | 0, s, h, p, hp => by rw [List.mem_singleton.1 hp]; exact h
  | k + 1, s, h, p, hp => by
    unfold Lib.splitB at hp
    split at hp
    · rw [List.mem_singleton.1 hp]; exact h
    · rcases List.mem_cons.1 hp with rfl | hp
      · rw [ByteArray.size_extract]; omega
      · exact splitB_small sep N k _ (by rw [ByteArray.size_extract]; omega) p hp
theorem pieces_small {s : ByteArray} {N : Nat} (h : s.size ≤ N) : ∀ p ∈ piecesB s, p.size ≤ N := splitB_small comB N _ s h
theorem pieces_len (s : ByteArray) : (piecesB s).length = Lib.countB s comB + 1 := Lib.splitB_all comB (by decide) 0 _ s rfl
theorem pieces_of {s : ByteArray} {x : Rg} {l : List Rg} (h : s = mkB (printD (x :: l))) : (piecesB s).map (·.data.toList) = (x :: l).map itemD := by
  unfold piecesB
  rw [Lib.splitB_data]
  have hs : s.data.toList = printD (x :: l) := by rw [h]; rfl
  have hc : comB.data.toList = [44] := rfl
  show Lib.splitK comB.data.toList 0 (Lib.count s.data.toList comB.data.toList) s.data.toList = _
  rw [hs, hc]
  exact pieces_print x l
theorem cut_small (p : ByteArray) (N : Nat) (h : p.size ≤ N) : (⟨(Lib.cut p.data.toList dashB.data.toList).1.toArray⟩ : ByteArray).size ≤ N ∧ (⟨(Lib.cut p.data.toList dashB.data.toList).2.1.toArray⟩ : ByteArray).size ≤ N := by
  have hl : p.data.toList.length = p.size := Array.length_toList
  have e : ∀ l : List UInt8, (⟨l.toArray⟩ : ByteArray).size = l.length := fun l => List.size_toArray ..
  rw [e, e]
  unfold Lib.cut
  split
  · simp only [List.length_take, List.length_drop]; omega
  · simp only [List.length_nil]; omega
theorem mkB_toList {p : ByteArray} {l : List UInt8} (h : p.data.toList = l) : p = mkB l := by
  apply ByteArray.ext
  show p.data = l.toArray
  rw [← h, Array.toArray_toList]
/-- What a piece of a right list's text is read to be. -/
theorem cut_of {p : ByteArray} {x : Rg} (hx : okR x) (h : p.data.toList = itemD x) :
    (goodX ⟨(Lib.cut p.data.toList dashB.data.toList).1.toArray⟩ ∧ dxN (intsOf ⟨(Lib.cut p.data.toList dashB.data.toList).1.toArray⟩) = x.1) ∧
    ((Lib.cut p.data.toList dashB.data.toList).2.2 = false → x.1 = x.2) ∧
    ((Lib.cut p.data.toList dashB.data.toList).2.2 = true → goodX ⟨(Lib.cut p.data.toList dashB.data.toList).2.1.toArray⟩ ∧ dxN (intsOf ⟨(Lib.cut p.data.toList dashB.data.toList).2.1.toArray⟩) = x.2) := by
  obtain ⟨h1, h2, h3⟩ := hx
  rw [h]
  show (goodX ⟨(Lib.cut (itemD x) [45]).1.toArray⟩ ∧ dxN (intsOf ⟨(Lib.cut (itemD x) [45]).1.toArray⟩) = x.1) ∧ ((Lib.cut (itemD x) [45]).2.2 = false → x.1 = x.2) ∧ ((Lib.cut (itemD x) [45]).2.2 = true → goodX ⟨(Lib.cut (itemD x) [45]).2.1.toArray⟩ ∧ dxN (intsOf ⟨(Lib.cut (itemD x) [45]).2.1.toArray⟩) = x.2)
  rw [cut_item]
  have g1 := good_hex4 x.1.toNat (by omega)
  have g2 := good_hex4 x.2.toNat (by omega)
  have e1 : ((x.1.toNat : Nat) : Int) = x.1 := by omega
  have e2 : ((x.2.toNat : Nat) : Int) = x.2 := by omega
  rw [e1] at g1
  rw [e2] at g2
  by_cases hxx : x.1 = x.2
  · rw [if_pos hxx]
    exact ⟨g1, (fun _ => hxx), (fun h => by cases h)⟩
  · rw [if_neg hxx]
    exact ⟨g1, (fun h => by cases h), (fun _ => g2)⟩
theorem rightF_lenR : ∀ (l : List Rg) (b : Int), rightF b l → b ≤ 1114112 → 2 * (l.length : Int) ≤ 1114113 - b
  | [], b, _, hb => by simp; omega
  | x :: l, b, ⟨h1, h2, h3, h4⟩, hb => by
    have := rightF_lenR l (x.2 + 1) h4 (by omega)
    rw [List.length_cons]
    omega
theorem makeR_zero {l : List Rg} (h : (makeR l).2 = 0) : rightR (makeR l).1 := by
  unfold makeR at h ⊢
  split
  · rename_i h1; rw [if_pos h1] at h; cases h
  · rename_i h1
    rw [if_neg h1] at h
    split
    · rename_i h2; rw [if_pos h2] at h; cases h
    · rename_i h2
      refine (gath_or (fun x hx => ?_) (fun x hx => by cases hx)).1
      unfold badB at h2
      have h3 : (l.any fun x => !okB x) = false := by simpa using h2
      have := List.any_eq_false.1 h3 x hx
      simp at this
      exact of_decide_eq_true this
theorem makeR_right {l : List Rg} (h : rightR l) (hl : l.length ≤ 1000) : makeR l = (l, 0) := by
  unfold makeR
  rw [if_neg (by omega)]
  have hb : badB l = false := by
    unfold badB
    rw [List.any_eq_false]
    intro x hx
    have : okB x = true := decide_eq_true (right_ok h x hx)
    simp [this]
  rw [hb, if_neg (by decide)]
  obtain ⟨g1, g2⟩ := gath_or (right_ok h) (b := []) (fun x hx => by cases hx)
  rw [right_unique g1 h fun r => (g2 r).trans ⟨fun q => q.elim id fun q => absurd q (memR_nil r), .inl⟩]
/-- What is read so far. -/
def RdOk (s : ByteArray) (ls : List Rg) : Prop := In32 ls ∧ ∀ j (h : j < ls.length) (h2 : j < (piecesB s).length) (x : Rg), okR x → ((piecesB s)[j]).data.toList = itemD x → ls[j] = x
theorem RdOk.nil (s : ByteArray) : RdOk s [] := ⟨(fun x hx => by cases hx), fun j h => absurd h (Nat.not_lt_zero _)⟩
theorem RdOk.snoc {s : ByteArray} {ls : List Rg} (h : RdOk s ls) (y : Rg) (hy : (-2147483648 ≤ y.1 ∧ y.1 ≤ 2147483647) ∧ (-2147483648 ≤ y.2 ∧ y.2 ≤ 2147483647)) (hl : ls.length < (piecesB s).length) (hx : ∀ x, okR x → ((piecesB s)[ls.length]).data.toList = itemD x → y = x) : RdOk s (ls ++ [y]) := by
  refine ⟨fun z hz => ?_, fun j hj h2 x ho he => ?_⟩
  · rcases List.mem_append.1 hz with hz | hz
    · exact h.1 z hz
    · rw [List.mem_singleton.1 hz]; exact hy
  · rw [List.length_append, List.length_singleton] at hj
    by_cases e : j < ls.length
    · rw [List.getElem_append_left e]; exact h.2 j e h2 x ho he
    · obtain rfl : j = ls.length := by omega
      rw [List.getElem_append_right (Nat.le_refl _)]
      simp only [Nat.sub_self, List.getElem_cons_zero]
      exact hx x ho he
theorem RdOk.all {s : ByteArray} {ls : List Rg} (h : RdOk s ls) (hl : ls.length = (piecesB s).length) {k : List Rg} (hk : rightR k) (hne : k ≠ []) (hs : s = mkB (printD k)) : ls = k := by
  cases k with
  | nil => exact absurd rfl hne
  | cons x k =>
    have hp := pieces_of hs
    have hpl : (piecesB s).length = (x :: k).length := by
      have := congrArg List.length hp
      simpa using this
    apply List.ext_getElem (by omega)
    intro j h1 h2
    refine h.2 j h1 (by omega) _ (right_ok hk _ (List.getElem_mem h2)) ?_
    have := congrArg (·[j]?) hp
    simp only [List.getElem?_map, List.getElem?_eq_getElem h2, List.getElem?_eq_getElem (show j < (piecesB s).length by omega), Option.map_some] at this
    injection this
def ParPost (s : ByteArray) (w : World) (e : Ending) (w' : World) : Prop :=
  ∃ A n c z u, e = .returned (.tuple #[.slice A n c, .int .i64 z]) ∧ RR w' A n c u ∧ n ≤ 1000000 ∧ rightR u ∧ ((z = 0 ∧ s = mkB (printD u)) ∨ (z = 4 ∧ u = [])) ∧ (∀ k, rightR k → k.length ≤ 1000 → s = mkB (printD k) → z = 0) ∧ Below w.heap.size w w'
/-- Where the library's bound lies. -/
def MaxV (m : Int) (w : World) : Prop := w.cell? ⟨Tryz.laysRp146_ren.g 1, 0, none⟩ = some (.int .i64 m) ∧ w.cell? ⟨Tryz.laysRp145_ren.g 1, 0, none⟩ = some (.int .i64 m)
theorem MaxV.below {m : Int} {w w' : World} {B : Nat} (h : MaxV m w) (hb : Below B w w') (hB : w.heap.size ≤ B) : MaxV m w' :=
  ⟨(hb.cell (p := ⟨_, 0, none⟩) (Nat.lt_of_lt_of_le (World.block_lt_of_cell? _ _ h.1) hB)).trans h.1, (hb.cell (p := ⟨_, 0, none⟩) (Nat.lt_of_lt_of_le (World.block_lt_of_cell? _ _ h.2) hB)).trans h.2⟩
def strArr (l : List ByteArray) : Array Value := (l.map Value.string).toArray
theorem strArr_at (l : List ByteArray) (j : Nat) (h : j < l.length) : (strArr l)[j]? = some (.string l[j]) := by unfold strArr; simp [h]
theorem split_any (s : ByteArray) (hs : s.size ≤ 1000) (m : Int) (w : World) (hm : MaxV m w) : Calls Tryz.prog 18 #[.string s, .string ⟨#[44]⟩] w fun e w' => e = .returned (.slice (some ⟨w.heap.size, 0, none⟩) (piecesB s).length (piecesB s).length) ∧ w' = w.alloc (.cells (strArr (piecesB s)) 9) := by
  have := Any.strings_Split (P := Tryz.prog) { Tryz.laysRp146 with } Tryz.laysRp146.i9 s comB m w (by omega) hm.1 (by decide)
  rw [← pieces_len] at this
  exact this
theorem cut_any2 (p : ByteArray) (hs : p.size ≤ 1000) (m : Int) (w : World) (hm : MaxV m w) : Calls Tryz.prog 19 #[.string p, .string ⟨#[45]⟩] w fun e w' => e = .returned (.tuple #[.string ⟨(Lib.cut p.data.toList dashB.data.toList).1.toArray⟩, .string ⟨(Lib.cut p.data.toList dashB.data.toList).2.1.toArray⟩, .bool (Lib.cut p.data.toList dashB.data.toList).2.2]) ∧ Below w.heap.size w w' :=
  (Any.strings_Cut (P := Tryz.prog) { Tryz.laysRp145 with } p dashB m w (by omega) hm.2).mono fun e w' ⟨h1, n, h2⟩ => ⟨h1, by rw [h2]; exact below_drewN _ _ _⟩
set_option maxHeartbeats 4000000 in
theorem rgparse_any (s : ByteArray) (hs : s.size ≤ 1000) (m : Int) (w : World) (hm : MaxV m w) (hv : ErrV w) (hdb : Db w) : Calls Tryz.prog 8 #[.string s] w (ParPost s w) := by
  obtain ⟨i0, hi, hz0, hz1, hz2⟩ := info_parts info_rg
  by_cases hno : s = mkB noneD
  · subst hno
    have HR := hid (show ParPost (mkB noneD) w (.returned (.tuple #[.slice none 0 0, .int .i64 0])) w from ⟨_, _, _, _, [], rfl, RR.nil w, by decide, trivial, .inl ⟨rfl, rfl⟩, fun _ _ _ _ => rfl, Below.refl _ _⟩)
    have h1 : ((mkB noneD).toList == (⟨#[110, 111, 110, 101]⟩ : ByteArray).toList) = true := by
      show ((mkB noneD).toList == (mkB noneD).toList) = true
      simp
    have h3 : (mkB noneD).toList = [110, 111, 110, 101] := by rw [Lib.toList_data]; rfl
    have h2 : ((mkB noneD).toList == [110, 111, 110, 101]) = true := by rw [h3]; rfl
    generalize mkB noneD = q at *
    clear hm hv hdb
    go_enter Tryz.func8, Tryz.ntmps8
    go_wp2_with fail
    go_ret2
    exact HR.out
  have hn1 : (s.toList == (⟨#[110, 111, 110, 101]⟩ : ByteArray).toList) = false := str_ne hno
  have hn2 : ¬ s.toList = (⟨#[110, 111, 110, 101]⟩ : ByteArray).toList := fun e => hno (str_toList_inj.1 e)
  have hn3 : (s.toList == [110, 111, 110, 101]) = false := by
    have : (⟨#[110, 111, 110, 101]⟩ : ByteArray).toList = [110, 111, 110, 101] := by rw [Lib.toList_data]
    rw [this] at hn1
    exact hn1
  have HNE := hid (show ∀ k, rightR k → s = mkB (printD k) → k ≠ [] from fun k _ h e => by subst e; exact hno h)
  have HSP := hid (split_any s hs m w hm)
  have HV := hid hv
  have HDB := hid hdb
  have HM := hid hm
  have hpl : (piecesB s).length ≤ 1001 := by
    rw [pieces_len]
    have := Lib.countB_le comB (by decide) s.size s (Nat.le_refl _)
    omega
  have HPS := hid (pieces_small hs)
  have HSN := hid (fun ls h y hy hl hx => @RdOk.snoc s ls h y hy hl hx)
  have HALL := hid (fun ls h hl k hk hne hs => @RdOk.all s ls h hl k hk hne hs)
  have HNIL := hid (RdOk.nil s)
  generalize RdOk s = RO at *
  obtain ⟨P, hP⟩ : ∃ P, P = piecesB s := ⟨_, rfl⟩
  rw [← hP] at HSP hpl HPS HSN HALL
  clear hm hv hdb hno hP
  go_enter Tryz.func8, Tryz.ntmps8
  go_wp2_with fail
  refine HSP.out.mono ?_
  rintro e w1 ⟨rfl, hw1⟩
  have hq1 : Blk w1 w.heap.size 9 (strArr P) := by rw [hw1]; exact Blk.new _ _ _
  have hb1 : Below w.heap.size w w1 := by rw [hw1]; exact (Below.refl _ _).alloc (Nat.le_refl _) _
  have HQ1 := hid hq1
  have HB1 := hid hb1
  have HV1 := hid (HV.out.below hb1 (Nat.le_refl _))
  have HDB1 := hid (HDB.out.below hb1 (Nat.le_refl _))
  have HM1 := hid (HM.out.below hb1 (Nat.le_refl _))
  have hq1lt := hq1.lt
  clear hw1 hq1 hb1 hn1 hn2 hn3
  have hs1 := HB1.out.size
  generalize w.heap.size = q1 at hq1lt HQ1 ⊢
  obtain ⟨pn, hpn⟩ : ∃ pn, pn = P.length := ⟨_, rfl⟩
  have HPN := hid hpn
  rw [← hpn] at hpl ⊢
  clear hpn
  go_wp2_with fail
  go_loopg [4, 18] pn (fun kx s4 s18 wr => ∃ (i n c : Nat) (A : Option Addr) (ls : List Rg), s4 = .slice A n c ∧ s18 = .int .i64 i ∧ i ≤ pn ∧ pn - i ≤ kx ∧ n = i ∧ Hid (i = ls.length) ∧ Hid (wr.ownsRow w1.heap.size 39 2 (.slice A n c) n (ls.flatMap rgCells)) ∧ Hid (RO ls) ∧ Hid (Below w1.heap.size w1 wr))
  case atStart => exact ⟨0, 0, 0, none, [], rfl, rfl, Nat.zero_le _, by omega, rfl, rfl, World.ownsRow_nil _ _ _ _, HNIL.out, Below.refl _ _⟩
  case round =>
    obtain ⟨i, n, c, A, ls, rfl, rfl, hi1, hg, hni, HIL, HROW, HRO, HB⟩ := hrel
    have hszr := HB.out.size
    obtain rfl : n = i := hni
    by_cases hlt : n < pn
    · have hlt' : (n : Int) < (pn : Int) := by omega
      have hnl : n < P.length := by rw [← HPN.out]; exact hlt
      have c0 := ((HB.out.cell (p := ⟨q1, n, none⟩) hq1lt).trans ((HQ1.out.cell n).trans (strArr_at P n hnl)))
      have hps := HPS.out P[n] (List.getElem_mem hnl)
      have HNX := hid (fun (y : Rg) hy (hx : ∀ x, okR x → (P[n]).data.toList = itemD x → y = x) => HSN.out ls HRO.out y hy (by rw [← HIL.out]; exact hnl) (by simpa only [← HIL.out] using hx))
      have HCU := hid (fun (x : Rg) (hx : okR x) (h : (P[n]).data.toList = itemD x) => cut_of hx h)
      generalize P[n] = p at *
      have HCT := hid (cut_any2 p hps m wr (HM1.out.below HB.out (Nat.le_refl _)))
      obtain ⟨k1, k2⟩ := cut_small p 1000 hps
      generalize (⟨(Lib.cut p.data.toList dashB.data.toList).1.toArray⟩ : ByteArray) = lo at *
      generalize (⟨(Lib.cut p.data.toList dashB.data.toList).2.1.toArray⟩ : ByteArray) = hi2 at *
      generalize (Lib.cut p.data.toList dashB.data.toList).2.2 = two at *
      go_wp2_with fail
      refine HCT.out.mono ?_
      rintro e w2 ⟨rfl, hb2⟩
      have HB2 := hid (HB.out.trans (hb2.mono hszr))
      have HROW2 := hid (HROW.out.kept (grown_of_below hb2 none) (by cases h : (Value.slice A n c).ownBlock <;> simp))
      clear hb2 c0
      have hs2 := HB2.out.size
      go_wp2_with fail
      refine (number_any lo (by omega) w2 (HV1.out.below HB2.out (Nat.le_refl _))).mono ?_
      rintro e w3 ⟨v1, rfl, v10, v11, hv1, hb3⟩
      have HV1R := hid hv1
      have HB3 := hid (HB2.out.trans (hb3.mono hs2))
      have HROW3 := hid (HROW2.out.kept (grown_of_below hb3 none) (by cases h : (Value.slice A n c).ownBlock <;> simp))
      clear hb3 hv1
      have hs3 := HB3.out.size
      go_wp2_with fail
      refine (number_any lo (by omega) w3 (HV1.out.below HB3.out (Nat.le_refl _))).mono ?_
      rintro e w4 ⟨v2, rfl, v20, v21, hv2, hb4⟩
      have HV2R := hid hv2
      have HB4 := hid (HB3.out.trans (hb4.mono hs3))
      have HROW4 := hid (HROW3.out.kept (grown_of_below hb4 none) (by cases h : (Value.slice A n c).ownBlock <;> simp))
      clear hb4 hv2
      have hs4 := HB4.out.size
      have hq5 := Blk.new w4 39 #[.int .i32 v1, .int .i32 v2]
      have HROW5 := hid (HROW4.out.alloc (.cells #[.int .i32 v1, .int .i32 v2] 39))
      have HB5 := hid (HB4.out.alloc hs4 (.cells #[.int .i32 v1, .int .i32 v2] 39))
      have hne : ∀ k, (Value.slice A n c).ownBlock = some k → k ≠ w4.heap.size := fun k hk e => by have := own_lt HROW4.out hk; omega
      have HNEQ := hid hne
      have hqs : w1.heap.size ≤ w4.heap.size := hs4
      have HQ5 := hid hq5
      clear hne hq5
      cases two
      · have HY := hid (HNX.out (v1, v2) ⟨⟨v10, v11⟩, v20, v21⟩ (fun x hx h => by
          obtain ⟨⟨a1, a2⟩, a3, _⟩ := HCU.out x hx h
          have e1 := HV1R.out a1
          have e2 := HV2R.out a1
          rw [a2] at e1 e2
          have e3 := a3 (by first | rfl | trivial)
          exact Prod.ext e1 (e2.trans e3)))
        go_upto_region 9 with fail
        generalize w4.alloc (.cells #[.int .i32 v1, .int .i32 v2] 39) = w5 at *
        have hs5 := HB5.out.size
        have z0 := HQ5.out.cell 0
        have z1 := HQ5.out.cell 1
        simp only [List.getElem?_toArray, List.getElem?_cons_zero, List.getElem?_cons_succ] at z0 z1
        go_wp2_with (at_builtin; refine wpList_append_any _ rfl (.tmp 37) (.tmp 39) 26 rfl w1.heap.size 39 i0 (.agg #[.int .i32 0, .int .i32 0]) 2 8 Tryz.underlying26 hi hz0 hz1 hz2 rfl (by decide) _ n (ls.flatMap rgCells) rfl (HROW5.out.alloc _) _ _ 1 1 [.int .i32 v1, .int .i32 v2] rfl (reads_blk2 (Blk.new w5 _ _)) (by simp [Value.oneCell']) (by unfold maxLen; omega) (by omega) (by simp; omega) ?_; intro v9 w7 ho7 hg7 hq7; have HB7 := hid ((HB5.out.alloc hs5 _).grown hg7 (by simp; omega) (own_ge HROW5.out)); obtain ⟨A7, c7, rfl⟩ := owns_slice ho7; have HO7 := hid ho7; clear ho7 hg7 hq7)
        go_roundg (pn - (n + 1))
        case measure => omega
        case rel => exact ⟨n + 1, n + 1, c7, A7, ls ++ [(v1, v2)], rfl, by go_num, by omega, Nat.le_refl _, rfl, (by show n + 1 = _; rw [List.length_append, ← HIL.out]; rfl), (by show World.ownsRow _ _ _ _ _ _ _; rw [flat_snoc]; exact HO7.out), HY.out, HB7.out⟩
      · go_upto_region 9 with fail
        generalize w4.alloc (.cells #[.int .i32 v1, .int .i32 v2] 39) = w5 at *
        have hs5 := HB5.out.size
        have HNU := hid (number_any hi2 (by omega) w5 (HV1.out.below HB5.out (Nat.le_refl _)))
        go_wp2_with fail
        refine HNU.out.mono ?_
        rintro e w6 ⟨v3, rfl, v30, v31, hv3, hb6⟩
        have HV3R := hid hv3
        have HQ6 := hid (HQ5.out.below hb6 HQ5.out.lt)
        have HB6 := hid (HB5.out.trans (hb6.mono hs5))
        have HROW6 := hid (HROW5.out.kept (grown_of_below hb6 none) (by cases h : (Value.slice A n c).ownBlock <;> simp))
        clear hb6 hv3
        have hs6 := HB6.out.size
        have HY := hid (HNX.out (v1, v3) ⟨⟨v10, v11⟩, v30, v31⟩ (fun x hx h => by
          obtain ⟨⟨a1, a2⟩, _, a3⟩ := HCU.out x hx h
          have e1 := HV1R.out a1
          rw [a2] at e1
          obtain ⟨a4, a5⟩ := a3 (by first | rfl | trivial)
          have e3 := HV3R.out a4
          rw [a5] at e3
          exact Prod.ext e1 e3))
        have z1 := HQ6.out.cell 1
        simp only [List.getElem?_toArray, List.getElem?_cons_zero, List.getElem?_cons_succ] at z1
        have zf := HQ6.out.frozen 1
        have HG6 := hid (grown_set w6 w4.heap.size 1 (.int .i32 v3))
        have HQ7 := hid (HQ6.out.set_ 1 (.int .i32 v3))
        have HROW7 := hid (own_kept HROW6.out HG6.out (fun k hk e => by injection e with e; exact HNEQ.out k hk e.symm))
        have HB7 := hid (HB6.out.grown HG6.out hs6 (fun k hk => by injection hk with hk; omega))
        go_upto_region 11 with fail
        generalize w6.setCell ⟨w4.heap.size, 1, none⟩ (.int .i32 v3) = w7 at *
        have hs7 := HB7.out.size
        have y0 := HQ7.out.cell 0
        have y1 := HQ7.out.cell 1
        simp only [List.setIfInBounds_toArray, List.set_cons_succ, List.set_cons_zero, List.getElem?_toArray, List.getElem?_cons_zero, List.getElem?_cons_succ] at y0 y1
        clear z1 zf
        go_wp2_with (at_builtin; refine wpList_append_any _ rfl (.tmp 37) (.tmp 39) 26 rfl w1.heap.size 39 i0 (.agg #[.int .i32 0, .int .i32 0]) 2 8 Tryz.underlying26 hi hz0 hz1 hz2 rfl (by decide) _ n (ls.flatMap rgCells) rfl (HROW7.out.alloc _) _ _ 1 1 [.int .i32 v1, .int .i32 v3] rfl (reads_blk2 (Blk.new w7 _ _)) (by simp [Value.oneCell']) (by unfold maxLen; omega) (by omega) (by simp; omega) ?_; intro v9 w8 ho7 hg7 hq7; have HB8 := hid ((HB7.out.alloc hs7 _).grown hg7 (by simp; omega) (own_ge HROW7.out)); obtain ⟨A7, c7, rfl⟩ := owns_slice ho7; have HO7 := hid ho7; clear ho7 hg7 hq7)
        go_roundg (pn - (n + 1))
        case measure => omega
        case rel => exact ⟨n + 1, n + 1, c7, A7, ls ++ [(v1, v3)], rfl, by go_num, by omega, Nat.le_refl _, rfl, (by show n + 1 = _; rw [List.length_append, ← HIL.out]; rfl), (by show World.ownsRow _ _ _ _ _ _ _; rw [flat_snoc]; exact HO7.out), HY.out, HB8.out⟩
    · obtain rfl : n = pn := by omega
      have HRR := hid (RR.of_own HROW.out)
      have HFL := hid (Flat.of_own HROW.out)
      have HKS := hid (fun k hk hs => HALL.out ls HRO.out (by rw [← HIL.out]; exact HPN.out) k hk (HNE.out k hk hs) hs)
      have HMZ := hid (fun (h : (makeR ls).2 = 0) => makeR_zero h)
      have HMR := hid (fun k (hk : rightR k) (hl : k.length ≤ 1000) (h : s = mkB (printD k)) => show makeR ls = (k, 0) from by rw [HKS.out k hk h]; exact makeR_right hk hl)
      have HMA := hid (make_any A n c ls wr HRR.out HFL.out (by omega))
      obtain ⟨u, hu⟩ : ∃ u, u = (makeR ls).1 := ⟨_, rfl⟩
      obtain ⟨z, hz⟩ : ∃ z, z = (makeR ls).2 := ⟨_, rfl⟩
      have HU := hid hu
      have HZ := hid hz
      rw [← hu, ← hz] at HMA
      rw [← hu, ← hz] at HMZ
      clear hu hz hlt hg
      go_wp2_with fail
      refine HMA.out.mono ?_
      rintro e w2 ⟨A2, n2, c2, rfl, hr2, hb2⟩
      have HR2 := hid hr2
      have HB2 := hid ((HB1.out.trans (HB.out.mono hs1)).trans (hb2.mono (by omega)))
      have HDB2 := hid (HDB1.out.below (HB.out.trans (hb2.mono hszr)) (Nat.le_refl _))
      clear hr2 hb2
      by_cases hz0' : z = 0
      · have HRU := hid (HMZ.out hz0')
        subst hz0'
        have hul : n2 ≤ 1000000 := by
          have h1 := HR2.out.1
          have h2 := rightF_lenR u (-1) HRU.out (by decide)
          omega
        have HPR := hid (print_any A2 n2 c2 u w2 HR2.out hul (fun x hx => by
          obtain ⟨a, b, c⟩ := right_ok HRU.out x hx
          exact ⟨⟨by omega, by omega⟩, ⟨by omega, by omega⟩⟩) HDB2.out)
        rw [knownL_of HRU.out] at HPR
        go_wp2_with fail
        refine HPR.out.mono ?_
        rintro e w3 ⟨rfl, hb3⟩
        have HB3 := hid (HB2.out.trans (hb3.mono HB2.out.size))
        have HR3 := hid (HR2.out.below hb3 (Nat.le_refl _))
        clear hb3
        by_cases hps : mkB (printD u) = s
        · have HPS2 := hid hps.symm
          rw [hps]
          have hbb : (s.toList == s.toList) = true := by simp
          clear hps
          go_wp2_with fail
          go_ret2
          exact ⟨A2, n2, c2, 0, u, rfl, HR3.out, hul, HRU.out, .inl ⟨rfl, HPS2.out⟩, fun _ _ _ _ => rfl, HB3.out⟩
        · have hbb : ((mkB (printD u)).toList == s.toList) = false := str_ne hps
          have hbb2 : ¬ (mkB (printD u)).toList = s.toList := fun e => hps (str_toList_inj.1 e)
          have HNK := hid (show ∀ k, rightR k → k.length ≤ 1000 → s = mkB (printD k) → False from fun k hk hl h => by
            have := HMR.out k hk hl h
            have h2 : u = k := by rw [HU.out, this]
            rw [h2] at hps
            exact hps h.symm)
          generalize mkB (printD u) = g at *
          clear hps
          go_wp2_with fail
          go_ret2
          exact ⟨none, 0, 0, 4, [], rfl, RR.nil _, by decide, trivial, .inr ⟨rfl, rfl⟩, fun k a b c => (HNK.out k a b c).elim, HB3.out⟩
      · have hzb : (z == 0) = false := by simpa using hz0'
        have hzb2 : (z != 0) = true := by simpa using hz0'
        have HNK := hid (show ∀ k, rightR k → k.length ≤ 1000 → s = mkB (printD k) → False from fun k hk hl h => by
          have := HMR.out k hk hl h
          exact hz0' (by rw [HZ.out, this]))
        go_wp2_with fail
        go_ret2
        exact ⟨none, 0, 0, 4, [], rfl, RR.nil _, by decide, trivial, .inr ⟨rfl, rfl⟩, fun k a b c => (HNK.out k a b c).elim, HB2.out⟩
end Go.Proofs.YtbkjanlkklmleaaGreatDoor
