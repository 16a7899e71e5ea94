/- Texts of FlA, FlB, FlC, FlD, FlD2, FlF, merged by a program of mine. -/
import Derived.Test.YtlfbgaknljdanaaGreatDoorExJ
import Derived.Lib.IndexMore
import Derived.Test.YtlfbgaknljdanaaGreatDoorSearch
import Derived.BigQuiet
import Derived.BigRegion

/- out of FlA -/
namespace Go.Proofs.YtlfbgaknljdanaaGreatDoor
open Go.RowKit Go.Shelf
open Go.Lib (hid)
set_option linter.unusedVariables false
set_option linter.unusedSimpArgs false
set_option maxRecDepth 100000

/-- Bytes with their items, at a pointer. -/
def FL (W : World) (g : Nat) (s : ByteArray) (l : List It) : Prop :=
  ∃ A n cap A2 m cap2, Blk W g 87 #[.slice A n cap, .slice A2 m cap2] ∧ BA W A n cap s ∧ IR W A2 m l
theorem FL.below {w w' : World} {g B : Nat} {s : ByteArray} {l : List It} (h : FL w g s l) (hb : Below B w w') (hB : w.heap.size ≤ B) : FL w' g s l := by
  obtain ⟨A, n, cap, A2, m, cap2, h1, h2, h3⟩ := h
  exact ⟨A, n, cap, A2, m, cap2, h1.below hb (Nat.lt_of_lt_of_le h1.lt hB), h2.below hb hB, h3.below hb hB⟩
theorem eql_nil (t : TypeId) (e : TypeId) (ht : Tryz.prog.underlying t = some (.slice e)) (w : World) (a : Option Addr) (n c n' c' : Nat) : (binOp .eql t (.slice a n c) (.slice none n' c')).run Tryz.prog w = .ok (.bool a.isNone) w := Lib.run_eql_slice_nil w _ _ a n c n' c' ht
theorem bclone_any (A : Option Addr) (n cap : Nat) (s : ByteArray) (w : World) (hba : BA w A n cap s) (hn : n ≤ 1000000) :
    Calls Tryz.prog 45 #[.slice A n cap] w fun e w' => ∃ v, e = .returned v ∧ w'.ownsRow w.heap.size 5 1 v s.size (u8s s) ∧ Below w.heap.size w w' := by
  obtain ⟨i0, hi, hz0, hz1, hz2⟩ := info_parts info_u8
  have hq := eql_nil 22 5 Tryz.underlying22
  have HN := hid hba.1
  have HRD := hid hba.reads
  cases A with
  | none =>
    have h0 : n = 0 := by
      rcases Nat.eq_zero_or_pos n with h | h
      · exact h
      · obtain ⟨b, off, e, _⟩ := hba.2.2.2 h
        cases e
    have HS0 := hid (show s.size = 0 by rw [← hba.1]; exact h0)
    clear hba h0
    go_enter Tryz.func45, Tryz.ntmps45
    go_wp2_with fail
    go_ret
    refine ⟨_, rfl, ?_, Below.refl _ _⟩
    have hu : u8s s = [] := List.eq_nil_of_length_eq_zero (by rw [u8s_len]; exact HS0.out)
    rw [HS0.out, hu]
    exact World.ownsRow_nil _ _ _ _
  | some a =>
    have HE := hid (owns_empty w 5 1)
    have HRD1 := hid (show Reads (w.alloc (.cells #[] 5)) w.heap.size 1 (some a) n (u8s s) from HRD.out.alloc (Nat.le_refl _) _)
    have hs1 : (w.alloc (.cells #[] 5)).heap.size = w.heap.size + 1 := by simp
    have HB1 := hid ((Below.refl w.heap.size w).alloc (Nat.le_refl _) (.cells #[] 5))
    clear hba
    go_enter Tryz.func45, Tryz.ntmps45
    go_wp2_with (at_builtin; go_must (refine wpList_append_any _ rfl (.tmp 5) (.tmp 6) 22 rfl w.heap.size 5 i0 (.int .u8 0) 1 1 Tryz.underlying22 hi hz0 hz1 hz2 rfl (by decide) _ 0 [] rfl HE.out _ (some a) n cap (u8s s) rfl HRD1.out (u8s_one _) (by unfold maxLen; omega) (by omega) (by omega) ?_); intro v6 w6 hown6 hgrow6 _)
    go_ret
    refine ⟨v6, rfl, ?_, HB1.out.grown hgrow6 (by omega) (fun k e => by cases e; exact Nat.le_refl _)⟩
    rw [← HN.out]
    simpa using hown6
theorem addr0 (g j : Nat) : (Addr.add ⟨g, 0, none⟩ j) = ⟨g, j, none⟩ := by unfold Addr.add; split <;> simp_all
theorem IR.reads {w : World} {A : Option Addr} {n : Nat} {l : List It} (h : IR w A n l) : Reads w w.heap.size 7 A n (itCells l) := by
  refine ⟨by rw [itCells_len, h.1], fun hn => ?_⟩
  obtain ⟨g, rfl, hg, hz⟩ := h.2 hn
  refine ⟨_, rfl, hg, fun j u hu => ?_⟩
  have hj : j < l.length * 7 := by
    have := (List.getElem?_eq_some_iff.1 hu).1
    rwa [itCells_len] at this
  have e : j = j / 7 * 7 + j % 7 := by omega
  have hc := hz (j / 7) (by omega) (j % 7) (by omega)
  have hg2 := itCells_get l (j / 7) (by omega) (j % 7) (by omega)
  rw [← e] at hc hg2
  rw [addr0, hc, ← hg2]
  exact hu
theorem iclone_any (A : Option Addr) (n cap : Nat) (l : List It) (w : World) (hir : IR w A n l) (hn : n ≤ 1000000) :
    Calls Tryz.prog 49 #[.slice A n cap] w fun e w' => ∃ v, e = .returned v ∧ w'.ownsRow w.heap.size 34 7 v l.length (itCells l) ∧ Below w.heap.size w w' := by
  obtain ⟨i0, hi, hz0, hz1, hz2⟩ := info_parts info_item
  have hq := eql_nil 26 34 Tryz.underlying26
  have HN := hid hir.1
  have HRD := hid hir.reads
  cases A with
  | none =>
    have h0 : n = 0 := by
      rcases Nat.eq_zero_or_pos n with h | h
      · exact h
      · obtain ⟨g, e, _⟩ := hir.2 h
        cases e
    have HS0 := hid (show l = [] from List.eq_nil_of_length_eq_zero (by rw [← hir.1]; exact h0))
    clear hir h0
    go_enter Tryz.func49, Tryz.ntmps49
    go_wp2_with fail
    go_ret
    refine ⟨_, rfl, ?_, Below.refl _ _⟩
    rw [HS0.out]
    exact World.ownsRow_nil _ _ _ _
  | some a =>
    have HE := hid (owns_empty w 34 7)
    have HRD1 := hid (show Reads (w.alloc (.cells #[] 34)) w.heap.size 7 (some a) n (itCells l) from HRD.out.alloc (Nat.le_refl _) _)
    have hs1 : (w.alloc (.cells #[] 34)).heap.size = w.heap.size + 1 := by simp
    have HB1 := hid ((Below.refl w.heap.size w).alloc (Nat.le_refl _) (.cells #[] 34))
    clear hir
    go_enter Tryz.func49, Tryz.ntmps49
    go_wp2_with (at_builtin; go_must (refine wpList_append_any _ rfl (.tmp 5) (.tmp 6) 26 rfl w.heap.size 34 i0 (.agg it0) 7 32 Tryz.underlying26 hi hz0 hz1 hz2 rfl (by decide) _ 0 [] rfl HE.out _ (some a) n cap (itCells l) rfl HRD1.out (itCells_one _) (by unfold maxLen; omega) (by omega) (by omega) ?_); intro v6 w6 hown6 hgrow6 _)
    go_ret
    refine ⟨v6, rfl, ?_, HB1.out.grown hgrow6 (by omega) (fun k e => by cases e; exact Nat.le_refl _)⟩
    rw [← HN.out]
    simpa using hown6
/-- The making. -/
theorem flNew_any (A : Option Addr) (n cap : Nat) (s : ByteArray) (w : World) (hba : BA w A n cap s) (hmx : Mx w) (ht : TabSp w) (hn : n ≤ 1000000) :
    Calls Tryz.prog 24 #[.slice A n cap] w fun e w' => ∃ g, e = .returned (.pointer (some ⟨g, 0, none⟩)) ∧ w.heap.size ≤ g ∧ FL w' g s (exAll s) ∧ Below w.heap.size w w' := by
  have HC := hid (bclone_any A n cap s w hba hn)
  have HA := hid (fun W (h : Below w.heap.size w W) => exAll_any A n cap s W (hba.below h (Nat.le_refl _)) (hmx.below h (Nat.le_refl _)) (ht.below h (Nat.le_refl _)) hn)
  clear hba hmx ht
  go_enter Tryz.func24, Tryz.ntmps24
  go_wp2_with fail
  refine HC.out.mono ?_
  rintro e w2 ⟨v, rfl, hr2, hb2⟩
  obtain ⟨A2, c2, rfl⟩ := owns_slice hr2
  have HBA2 := hid (BA.of_own hr2)
  have HB2 := hid hb2
  clear hr2 hb2
  go_wp2_with fail
  refine (HA.out w2 HB2.out).mono ?_
  rintro e w3 ⟨v, rfl, hr3, hb3⟩
  obtain ⟨A3, c3, rfl, hir⟩ := IR.of_own hr3
  have HBA3 := hid (fun o => (HBA2.out.below hb3 (Nat.le_refl _)).below ((Below.refl w3.heap.size w3).alloc (Nat.le_refl _) o) (Nat.le_refl _))
  have HIR3 := hid (fun o => hir.below ((Below.refl w3.heap.size w3).alloc (Nat.le_refl _) o) (Nat.le_refl _))
  have HB3 := hid (HB2.out.trans (hb3.mono HB2.out.size))
  have HBK := hid (fun cs => Blk.new w3 87 cs)
  clear hr3 hb3 hir
  go_wp2_with fail
  go_ret
  exact ⟨w3.heap.size, rfl, HB3.out.size, ⟨_, _, _, _, _, _, HBK.out _, HBA3.out _, HIR3.out _⟩, HB3.out.alloc HB3.out.size _⟩
/-- A place of the text, in the bytes. -/
def rawF (s : ByteArray) (l : List It) (i : Nat) : Nat := if i = 0 then 0 else if i = l.length then s.size else (l.getD i ⟨0, 0, 0, false, false, false, false⟩).at_
theorem flraw_any (g : Nat) (s : ByteArray) (l : List It) (i : Nat) (w : World) (h : FL w g s l) (hi : i ≤ l.length) : Calls Tryz.prog 48 #[.pointer (some ⟨g, 0, none⟩), .int .i64 i] w fun e w' => e = .returned (.int .i64 (rawF s l i)) ∧ w' = w := by
  obtain ⟨A, n, cap, A2, m, cap2, h1, h2, h3⟩ := h
  have x0 := h1.cell 0
  have x1 := h1.cell 1
  simp only [List.getElem?_toArray, List.getElem?_cons_zero, List.getElem?_cons_succ] at x0 x1
  have HNS := hid h2.1
  have hm := h3.1
  obtain ⟨r, hr⟩ : ∃ r, r = rawF s l i := ⟨_, rfl⟩
  rw [← hr]
  by_cases hi0 : i = 0
  · subst hi0
    have HR := hid (show r = 0 by rw [hr]; unfold rawF; rw [if_pos rfl])
    clear hr h1 h2 h3
    go_enter Tryz.func48, Tryz.ntmps48
    go_wp2_with fail
    go_ret
    exact ⟨by rw [HR.out]; rfl, rfl⟩
  have hi0b : ((i : Int) == 0) = false := by simp; omega
  by_cases him : i = m
  · have HR := hid (show r = n by rw [hr]; unfold rawF; rw [if_neg hi0, if_pos (by omega), ← h2.1])
    subst him
    clear hr h1 h2 h3 hm hi
    go_enter Tryz.func48, Tryz.ntmps48
    go_wp2_with fail
    go_ret
    exact ⟨by rw [HR.out]; rfl, rfl⟩
  · have himb : ((i : Int) == (m : Int)) = false := by simp; omega
    have him2 : ¬ (i : Int) = (m : Int) := by omega
    have hil : i < l.length := by omega
    obtain ⟨gi, rfl, _, y0, y1, y2, y3, y4, y5, y6⟩ := h3.at_ hil
    have HR := hid (show r = l[i].at_ by rw [hr]; unfold rawF; rw [if_neg hi0, if_neg (by omega), List.getD_eq_getElem?_getD, List.getElem?_eq_getElem hil]; rfl)
    have hlt' : (i : Int) < (m : Int) := by omega
    generalize l[i].at_ = q at *
    clear hr h1 h2 h3 y0 y2 y3 y4 y5 y6 him hi hm
    go_enter Tryz.func48, Tryz.ntmps48
    go_wp2_with fail
    go_ret
    exact ⟨by rw [HR.out]; rfl, rfl⟩
theorem Raw_any (g : Nat) (s : ByteArray) (l : List It) (i : Int) (w : World) (h : FL w g s l) : Calls Tryz.prog 27 #[.pointer (some ⟨g, 0, none⟩), .int .i64 i] w fun e w' => e = .returned (.tuple #[.int .i64 (if 0 ≤ i ∧ i ≤ l.length then rawF s l i.toNat else 0), .bool (decide (0 ≤ i ∧ i ≤ l.length))]) ∧ w' = w := by
  have HRW := hid (fun k hk => flraw_any g s l k w h hk)
  obtain ⟨A, n, cap, A2, m, cap2, h1, h2, h3⟩ := h
  have x1 := h1.cell 1
  simp only [List.getElem?_toArray, List.getElem?_cons_zero, List.getElem?_cons_succ] at x1
  have HM := hid h3.1
  rw [← h3.1] at HRW ⊢
  clear h1 h2 h3
  by_cases hi0 : i < 0
  · have HE := hid (show ¬ (0 ≤ i ∧ i ≤ (m : Int)) by omega)
    rw [if_neg HE.out, decide_eq_false HE.out]
    go_enter Tryz.func27, Tryz.ntmps27
    go_wp2_with fail
    go_ret2
    exact ⟨rfl, rfl⟩
  by_cases him : (m : Int) < i
  · have HE := hid (show ¬ (0 ≤ i ∧ i ≤ (m : Int)) by omega)
    rw [if_neg HE.out, decide_eq_false HE.out]
    go_enter Tryz.func27, Tryz.ntmps27
    go_wp2_with fail
    go_ret2
    exact ⟨rfl, rfl⟩
  · obtain ⟨k, rfl⟩ := Int.eq_ofNat_of_zero_le (by omega : 0 ≤ i)
    have HE := hid (show (0 ≤ (k : Int) ∧ (k : Int) ≤ (m : Int)) by omega)
    have HRK := hid (HRW.out k (by omega))
    rw [if_pos HE.out, decide_eq_true HE.out, Int.toNat_natCast]
    generalize rawF s l k = r at *
    clear HRW
    go_enter Tryz.func27, Tryz.ntmps27
    go_wp2_with fail
    refine HRK.out.mono ?_
    rintro e w' ⟨rfl, hw⟩
    obtain rfl := hw
    go_wp2_with fail
    go_ret2
    exact ⟨rfl, rfl⟩
theorem flLen_any (g : Nat) (s : ByteArray) (l : List It) (w : World) (h : FL w g s l) : Calls Tryz.prog 29 #[.pointer (some ⟨g, 0, none⟩)] w fun e w' => e = .returned (.int .i64 l.length) ∧ w' = w := by
  obtain ⟨A, n, cap, A2, m, cap2, h1, h2, h3⟩ := h
  have x1 := h1.cell 1
  simp only [List.getElem?_toArray, List.getElem?_cons_zero, List.getElem?_cons_succ] at x1
  rw [← h3.1]
  clear h1 h2 h3
  go_enter Tryz.func29, Tryz.ntmps29
  go_wp2_with fail
  go_ret
  exact ⟨rfl, rfl⟩
theorem flSize_any (g : Nat) (s : ByteArray) (l : List It) (w : World) (h : FL w g s l) : Calls Tryz.prog 31 #[.pointer (some ⟨g, 0, none⟩)] w fun e w' => e = .returned (.int .i64 s.size) ∧ w' = w := by
  obtain ⟨A, n, cap, A2, m, cap2, h1, h2, h3⟩ := h
  have x0 := h1.cell 0
  simp only [List.getElem?_toArray, List.getElem?_cons_zero, List.getElem?_cons_succ] at x0
  rw [← h2.1]
  clear h1 h2 h3
  go_enter Tryz.func31, Tryz.ntmps31
  go_wp2_with fail
  go_ret
  exact ⟨rfl, rfl⟩
theorem flText_any (g : Nat) (s : ByteArray) (l : List It) (w : World) (h : FL w g s l) (hl : l.length ≤ 1000000) : Calls Tryz.prog 32 #[.pointer (some ⟨g, 0, none⟩)] w fun e w' => e = .returned (.string (itB l)) ∧ Below w.heap.size w w' := by
  obtain ⟨A, n, cap, A2, m, cap2, h1, h2, h3⟩ := h
  have x1 := h1.cell 1
  simp only [List.getElem?_toArray, List.getElem?_cons_zero, List.getElem?_cons_succ] at x1
  have HT := hid (exText_any A2 m cap2 l w h3 (by rw [h3.1]; exact hl))
  clear h1 h2 h3
  go_enter Tryz.func32, Tryz.ntmps32
  go_wp2_with fail
  refine HT.out.mono ?_
  rintro e w' ⟨rfl, hb⟩
  have HB := hid hb
  clear hb
  go_wp2_with fail
  go_ret
  exact ⟨rfl, HB.out⟩
theorem flItems_any (g : Nat) (s : ByteArray) (l : List It) (w : World) (h : FL w g s l) (hl : l.length ≤ 1000000) : Calls Tryz.prog 33 #[.pointer (some ⟨g, 0, none⟩)] w fun e w' => ∃ v, e = .returned v ∧ w'.ownsRow w.heap.size 34 7 v l.length (itCells l) ∧ Below w.heap.size w w' := by
  obtain ⟨A, n, cap, A2, m, cap2, h1, h2, h3⟩ := h
  have x1 := h1.cell 1
  simp only [List.getElem?_toArray, List.getElem?_cons_zero, List.getElem?_cons_succ] at x1
  have HT := hid (iclone_any A2 m cap2 l w h3 (by rw [h3.1]; exact hl))
  clear h1 h2 h3
  go_enter Tryz.func33, Tryz.ntmps33
  go_wp2_with fail
  refine HT.out.mono ?_
  rintro e w' ⟨v, rfl, hr, hb⟩
  have HR := hid hr
  have HB := hid hb
  clear hr hb
  go_wp2_with fail
  go_ret
  exact ⟨v, rfl, HR.out, HB.out⟩
end Go.Proofs.YtlfbgaknljdanaaGreatDoor

/- out of FlB -/
namespace Go.Proofs.YtlfbgaknljdanaaGreatDoor
open Go.RowKit Go.Shelf
open Go.Lib (hid)
set_option linter.unusedVariables false
set_option linter.unusedSimpArgs false
set_option maxRecDepth 100000

theorem FL.drewN {w : World} {g : Nat} {s : ByteArray} {l : List It} (h : FL w g s l) (q : Nat) : FL (w.drewN q) g s l := h.below (below_drewN w.heap.size w q) (Nat.le_refl _)
theorem plain1_any (g Bf Ba : Nat) (s : ByteArray) (l : List It) (at_ : Int) (k : Nat) (w : World) (h : FL w g s l) (hk : k < l.length) (hm : l.length ≤ 1000000) (c0 : w.cell? ⟨Bf, 0, none⟩ = some (.pointer (some ⟨g, 0, none⟩))) (c1 : w.cell? ⟨Ba, 0, none⟩ = some (.int .i64 at_)) :
    Calls Tryz.prog 47 #[.int .i64 k, .pointer (some ⟨Bf, 0, none⟩), .pointer (some ⟨Ba, 0, none⟩)] w fun e w' => e = .returned (.bool (decide (at_ ≤ (rawF s l (k + 1) : Nat)))) ∧ ∃ q, w' = w.drewN q := by
  have HRW := hid (fun q => flraw_any g s l (k + 1) (w.drewN q) (h.drewN q) (by omega))
  have hk1 : (k : Int) + 1 = ((k + 1 : Nat) : Int) := by omega
  have hkb : ((k + 1 : Nat) : Int) ≤ 2000000 := by omega
  generalize rawF s l (k + 1) = r at *
  generalize k + 1 = k1 at *
  clear h
  go_enter Tryz.func47, Tryz.ntmps47
  go_upto_region 1 with fail
  go_quiet (exact (HRW.out _).mono fun e w2 h => ⟨h.1, _, h.2⟩)
  go_wp2_with fail
  go_ret
  exact ⟨rfl, nq, rfl⟩
/-- What the plain place of a raw one is. -/
def PlainR (s : ByteArray) (l : List It) (at_ : Int) (e : Ending) : Prop :=
  if at_ < 0 ∨ (s.size : Int) < at_ then e = .returned (.tuple #[.int .i64 0, .bool false])
  else if at_ = 0 ∨ l.length = 0 then e = .returned (.tuple #[.int .i64 0, .bool true])
  else ∃ k, Found (l.length - 1) (fun k => decide (at_ ≤ (rawF s l (k + 1) : Nat))) k ∧ e = .returned (.tuple #[.int .i64 ((1 + k : Nat) : Int), .bool true])
theorem plainR_lo {s : ByteArray} {l : List It} {a : Int} (h : a < 0 ∨ (s.size : Int) < a) : PlainR s l a (.returned (.tuple #[.int .i64 0, .bool false])) := by
  unfold PlainR
  rw [if_pos h]
theorem plainR_z {s : ByteArray} {l : List It} {a : Int} (h : ¬ (a < 0 ∨ (s.size : Int) < a)) (h2 : a = 0 ∨ l.length = 0) : PlainR s l a (.returned (.tuple #[.int .i64 0, .bool true])) := by
  unfold PlainR
  rw [if_neg h, if_pos h2]
theorem plainR_k {s : ByteArray} {l : List It} {a : Int} (h : ¬ (a < 0 ∨ (s.size : Int) < a)) (h2 : ¬ (a = 0 ∨ l.length = 0)) {k : Nat} (hk : Found (l.length - 1) (fun k => decide (a ≤ (rawF s l (k + 1) : Nat))) k) : PlainR s l a (.returned (.tuple #[.int .i64 ((1 + k : Nat) : Int), .bool true])) := by
  unfold PlainR
  rw [if_neg h, if_neg h2]
  exact ⟨k, hk, rfl⟩
set_option maxHeartbeats 4000000 in
theorem Plain_any (g : Nat) (s : ByteArray) (l : List It) (at_ : Int) (w : World) (h : FL w g s l) (hm : l.length ≤ 1000000) :
    Calls Tryz.prog 25 #[.pointer (some ⟨g, 0, none⟩), .int .i64 at_] w fun e w' => PlainR s l at_ e ∧ Below w.heap.size w w' := by
  have hb1 := ((Below.refl w.heap.size w).alloc (Nat.le_refl _) (.cells #[.pointer (some ⟨g, 0, none⟩)] 49)).alloc (by simp) (.cells #[.int .i64 at_] 3)
  have q0 := (Blk.new w 49 #[.pointer (some ⟨g, 0, none⟩)]).alloc (.cells #[.int .i64 at_] 3)
  have q1 := Blk.new (w.alloc (.cells #[.pointer (some ⟨g, 0, none⟩)] 49)) 3 #[.int .i64 at_]
  rw [World.size_alloc] at q1
  have c0 := q0.cell 0
  have c1 := q1.cell 0
  simp only [List.getElem?_toArray, List.getElem?_cons_zero] at c0 c1
  have h1 := h.below hb1 (Nat.le_refl _)
  have HB1 := hid hb1
  have HP1 := hid (fun (k : Nat) (hk : k < l.length) W (hW : FL W g s l) c0 c1 => plain1_any g w.heap.size (w.heap.size + 1) s l at_ k W hW hk hm c0 c1)
  have H1 := hid h1
  obtain ⟨A, n, cap, A2, m, cap2, k1, k2, k3⟩ := h1
  have x0 := k1.cell 0
  have x1 := k1.cell 1
  simp only [List.getElem?_toArray, List.getElem?_cons_zero, List.getElem?_cons_succ] at x0 x1
  have HNS := hid k2.1
  have HM := hid k3.1
  rw [← k3.1] at HP1 hm
  clear h hb1 q0 q1 k1 k2 k3
  by_cases ha0 : at_ < 0
  · have HR := hid (plainR_lo (s := s) (l := l) (.inl ha0))
    go_enter Tryz.func25, Tryz.ntmps25
    go_upto_region 1 with fail
    generalize (w.alloc (.cells #[.pointer (some ⟨g, 0, none⟩)] 49)).alloc (.cells #[.int .i64 at_] 3) = w2 at *
    go_quiet (fail)
    go_wp2_with fail
    go_ret2
    exact ⟨HR.out, HB1.out.trans (below_drewN _ w2 nq)⟩
  have hd0 : decide (at_ < 0) = false := decide_eq_false ha0
  by_cases han : (n : Int) < at_
  · have HR := hid (plainR_lo (s := s) (l := l) (a := at_) (.inr (by rw [← HNS.out]; exact han)))
    have hd1 : decide ((n : Int) < at_) = true := decide_eq_true han
    go_enter Tryz.func25, Tryz.ntmps25
    go_upto_region 1 with fail
    generalize (w.alloc (.cells #[.pointer (some ⟨g, 0, none⟩)] 49)).alloc (.cells #[.int .i64 at_] 3) = w2 at *
    go_quiet (fail)
    go_wp2_with fail
    go_ret2
    exact ⟨HR.out, HB1.out.trans (below_drewN _ w2 nq)⟩
  have hd1 : decide ((n : Int) < at_) = false := decide_eq_false han
  have HNO := hid (show ¬ (at_ < 0 ∨ (s.size : Int) < at_) by have := HNS.out; omega)
  by_cases hz : at_ = 0
  · subst hz
    have HR := hid (plainR_z (l := l) HNO.out (.inl rfl))
    go_enter Tryz.func25, Tryz.ntmps25
    go_upto_region 1 with fail
    generalize (w.alloc (.cells #[.pointer (some ⟨g, 0, none⟩)] 49)).alloc (.cells #[.int .i64 0] 3) = w2 at *
    go_quiet (fail)
    go_wp2_with fail
    go_ret2
    exact ⟨HR.out, HB1.out.trans (below_drewN _ w2 nq)⟩
  have hzb : (at_ == 0) = false := by simpa using hz
  by_cases hm0 : m = 0
  · subst hm0
    have HR := hid (plainR_z (l := l) HNO.out (.inr HM.out.symm))
    go_enter Tryz.func25, Tryz.ntmps25
    go_upto_region 1 with fail
    generalize (w.alloc (.cells #[.pointer (some ⟨g, 0, none⟩)] 49)).alloc (.cells #[.int .i64 at_] 3) = w2 at *
    go_quiet (fail)
    go_wp2_with fail
    go_ret2
    exact ⟨HR.out, HB1.out.trans (below_drewN _ w2 nq)⟩
  · have HN2 := hid (show ¬ (at_ = 0 ∨ l.length = 0) by have := HM.out; omega)
    have hm0b : ((m : Int) == 0) = false := by simpa using hm0
    have hm1 : (m : Int) - 1 = ((m - 1 : Nat) : Int) := by omega
    have hm2 : ((m - 1 : Nat) : Int) ≤ 1000000 := by omega
    have HM1 := hid (show m - 1 < m by omega)
    obtain ⟨mm, hmm⟩ : ∃ mm, mm = m - 1 := ⟨_, rfl⟩
    rw [← hmm] at hm1 hm2 HM1
    have HMM := hid (show mm = l.length - 1 by have := HM.out; omega)
    clear hmm
    go_enter Tryz.func25, Tryz.ntmps25
    go_upto_region 1 with fail
    generalize (w.alloc (.cells #[.pointer (some ⟨g, 0, none⟩)] 49)).alloc (.cells #[.int .i64 at_] 3) = w2 at *
    go_quiet (fail)
    have HS := hid (search_any 47 #[.pointer (some ⟨w.heap.size, 0, none⟩), .pointer (some ⟨w.heap.size + 1, 0, none⟩)] mm (fun k => decide (at_ ≤ (rawF s l (k + 1) : Nat))) (fun W => ∃ q, W = w2.drewN q) (w2.drewN nq) (fun _ _ => by kernel_rfl) (by omega)
      (fun W k hW hk => by
        obtain ⟨q, rfl⟩ := hW
        refine (HP1.out k (by have := HM1.out; omega) (w2.drewN q) (H1.out.drewN q) c0 c1).mono ?_
        rintro e w' ⟨rfl, q2, rfl⟩
        exact ⟨rfl, q + q2, by rw [World.drewN_drewN]⟩)
      ⟨nq, rfl⟩)
    go_wp2_with fail
    refine HS.out.mono ?_
    rintro e w' ⟨k, rfl, hk, q, rfl⟩
    have HR := hid (plainR_k (s := s) (l := l) HNO.out HN2.out (k := k) (by rw [← HMM.out]; exact hk))
    have hkl := hk.le
    have hk1 : (1 : Int) + (k : Int) = ((1 + k : Nat) : Int) := by omega
    have hkb : ((1 + k : Nat) : Int) ≤ 2000000 := by omega
    clear hk hkl HS
    generalize 1 + k = k1 at *
    go_wp2_with fail
    go_ret2
    exact ⟨HR.out, HB1.out.trans (below_drewN _ w2 q)⟩
end Go.Proofs.YtlfbgaknljdanaaGreatDoor

/- out of FlC -/
namespace Go.Proofs.YtlfbgaknljdanaaGreatDoor
open Go.RowKit Go.Shelf
open Go.Lib (hid)
set_option linter.unusedVariables false
set_option linter.unusedSimpArgs false
set_option maxRecDepth 100000

def flB : ByteArray := ⟨#[97, 60, 98, 62, 99]⟩
def flBC : Array Value := #[.int .u8 97, .int .u8 60, .int .u8 98, .int .u8 62, .int .u8 99]
theorem flB_cells : flBC = flB.data.map fun b => Value.int .u8 b.toNat := by kernel_rfl
theorem flB_toks : toks flB = [⟨0, 0, 1, noB, 0, false⟩, ⟨2, 1, 4, ⟨#[98]⟩, 0, false⟩, ⟨0, 4, 5, noB, 0, false⟩] := by kernel_rfl
def flL : List It := [⟨97, 0, 1, false, false, false, false⟩, ⟨99, 4, 1, false, false, false, false⟩]
theorem flB_all : exAll flB = flL := by
  unfold exAll
  rw [flB_toks]
  kernel_rfl
theorem flL_text : itB flL = ⟨#[97, 99]⟩ := by kernel_rfl
theorem flL_plain {e : Ending} (h : PlainR flB flL 2 e) : e = .returned (.tuple #[.int .i64 1, .bool true]) := by
  unfold PlainR at h
  rw [if_neg (by decide), if_neg (by decide)] at h
  obtain ⟨k, hf, rfl⟩ := h
  have h1 := hf.le
  have h2 := hf.ahead
  have hk : k = 0 := by
    rcases h2 with h | h
    · exact h
    · have hk1 : k = 0 ∨ k = 1 := by
        have : k ≤ 1 := h1
        omega
      rcases hk1 with rfl | rfl
      · rfl
      · exact absurd h (by decide)
  subst hk
  rfl
set_option maxHeartbeats 8000000 in
theorem flawake_any (w : World) (ht : TabSp w) (hmx : Mx w) : Calls Tryz.prog 23 #[] w fun e w' => e = .returned (.bool true) ∧ Below w.heap.size w w' := by
  have kc := Lib.run_convert_bytes_const (P := Tryz.prog) w 22 5 flBC 5 5 Tryz.underlying22 Tryz.underlying5
  simp only [flBC, List.size_toArray, List.length_cons, List.length_nil, Nat.reduceAdd] at kc
  have hcell := fun i => cell_of_row _ w.heap.size i _ _ _ (heap_alloc_new w (.cells flBC 5 (5, 6)))
  have hb1 := (Below.refl w.heap.size w).alloc (Nat.le_refl _) (.cells flBC 5 (5, 6))
  have hz : Lib.Bytes (w.alloc (.cells flBC 5 (5, 6))) w.heap.size 0 flB := by
    intro i hi
    rw [Nat.zero_add, hcell i, flB_cells, Array.getElem?_map]
    have hi' : i < flB.data.size := hi
    rw [Array.getElem?_eq_getElem hi']
    rfl
  have hba : BA (w.alloc (.cells flBC 5 (5, 6))) (some ⟨w.heap.size, 0, none⟩) 5 5 flB := ⟨rfl, Nat.le_refl _, by decide, fun _ => ⟨w.heap.size, 0, rfl, by simp, hz⟩⟩
  have hnew := flNew_any _ 5 5 flB _ hba (hmx.below hb1 (Nat.le_refl _)) (ht.below hb1 (Nat.le_refl _)) (by decide)
  rw [flB_all] at hnew
  have HNEW := hid hnew
  have HB1 := hid hb1
  clear hba hz hb1 hnew hcell ht hmx
  go_enter Tryz.func23, Tryz.ntmps23
  go_wp2_with fail
  refine HNEW.out.mono ?_
  rintro e w2 ⟨g, rfl, _, hfl, hb2⟩
  have HB2 := hid (HB1.out.trans (hb2.mono HB1.out.size))
  have HR1 := hid (show Calls Tryz.prog 27 #[.pointer (some ⟨g, 0, none⟩), .int .i64 1] w2 fun e w' => e = .returned (.tuple #[.int .i64 4, .bool true]) ∧ w' = w2 from Raw_any g flB flL 1 w2 hfl)
  have HR2 := hid (show Calls Tryz.prog 27 #[.pointer (some ⟨g, 0, none⟩), .int .i64 2] w2 fun e w' => e = .returned (.tuple #[.int .i64 5, .bool true]) ∧ w' = w2 from Raw_any g flB flL 2 w2 hfl)
  have HPL := hid (Plain_any g flB flL 2 w2 hfl (by decide))
  have HTX := hid (fun W (h : Below w2.heap.size w2 W) => flText_any g flB flL W (hfl.below h (Nat.le_refl _)) (by decide))
  rw [flL_text] at HTX
  clear kc hfl hb2
  go_wp2_with fail
  refine HR1.out.mono ?_
  rintro e w3 ⟨rfl, hw3⟩
  obtain rfl := hw3
  go_wp2_with fail
  refine HR2.out.mono ?_
  rintro e w4 ⟨rfl, hw4⟩
  obtain rfl := hw4
  go_wp2_with fail
  refine HPL.out.mono ?_
  rintro e w5 ⟨hp, hb5⟩
  obtain rfl := flL_plain hp
  have HB5 := hid hb5
  clear hp hb5
  go_wp2_with fail
  refine (HTX.out w5 HB5.out).mono ?_
  rintro e w6 ⟨rfl, hb6⟩
  have HB6 := hid (HB2.out.trans ((HB5.out.trans (hb6.mono HB5.out.size)).mono HB2.out.size))
  clear hb6
  go_wp2_with fail
  go_ret
  exact ⟨rfl, HB6.out⟩
theorem refRaw_any (A : Option Addr) (n cap : Nat) (s : ByteArray) (l : List It) (i : Nat) (w : World) (h : IR w A n l) (hi : i ≤ l.length) : Calls Tryz.prog 26 #[.slice A n cap, .int .i64 s.size, .int .i64 i] w fun e w' => e = .returned (.int .i64 (rawF s l i)) ∧ w' = w := by
  have hm := h.1
  obtain ⟨r, hr⟩ : ∃ r, r = rawF s l i := ⟨_, rfl⟩
  rw [← hr]
  by_cases hi0 : i = 0
  · subst hi0
    have HR := hid (show r = 0 by rw [hr]; unfold rawF; rw [if_pos rfl])
    clear hr h
    go_enter Tryz.func26, Tryz.ntmps26
    go_wp2_with fail
    go_ret
    exact ⟨by rw [HR.out]; rfl, rfl⟩
  have hi0b : ((i : Int) == 0) = false := by simp; omega
  by_cases him : i = n
  · have HR := hid (show r = s.size by rw [hr]; unfold rawF; rw [if_neg hi0, if_pos (by omega)])
    subst him
    clear hr h hm hi
    go_enter Tryz.func26, Tryz.ntmps26
    go_wp2_with fail
    go_ret
    exact ⟨by rw [HR.out]; rfl, rfl⟩
  · have himb : ((i : Int) == (n : Int)) = false := by simp; omega
    have him2 : ¬ (i : Int) = (n : Int) := by omega
    have hil : i < l.length := by omega
    obtain ⟨gi, rfl, _, y0, y1, y2, y3, y4, y5, y6⟩ := h.at_ hil
    have HR := hid (show r = l[i].at_ by rw [hr]; unfold rawF; rw [if_neg hi0, if_neg (by omega), List.getD_eq_getElem?_getD, List.getElem?_eq_getElem hil]; rfl)
    have hlt' : (i : Int) < (n : Int) := by omega
    generalize l[i].at_ = q at *
    clear hr h y0 y2 y3 y4 y5 y6 him hi hm
    go_enter Tryz.func26, Tryz.ntmps26
    go_wp2_with fail
    go_ret
    exact ⟨by rw [HR.out]; rfl, rfl⟩
end Go.Proofs.YtlfbgaknljdanaaGreatDoor

/- out of FlD -/
namespace Go.Proofs.YtlfbgaknljdanaaGreatDoor
open Go.RowKit Go.Shelf
open Go.Lib (hid)
set_option linter.unusedVariables false
set_option linter.unusedSimpArgs false
set_option maxRecDepth 100000

theorem slice_ba {W : World} {A : Option Addr} {n c : Nat} {s : ByteArray} (h : BA W A n c s) {i e : Nat} (h1 : i ≤ e) (h2 : e ≤ n) :
    ∃ A' c', (∀ W' : World, (Instr.slice 22 (.slice A n c) (some (.int .i64 i)) (some (.int .i64 e)) none).run Tryz.prog W' = .ok (.slice A' (e - i) c') W') ∧ BA W A' (e - i) c' (s.extract i e) := by
  obtain ⟨b1, b2, b3, b4⟩ := h
  refine ⟨if c = i then A else A.map (·.add i), c - i, fun W' => ?_, ?_⟩
  · rw [run_slice_lh (P := Tryz.prog) W' 22 _ n c rfl .i64 .i64 i e (by omega) (by omega) (by omega)]
    have hs : (sizeOf (Tryz.prog.elem 22)).run Tryz.prog W' = .ok 1 W' := by go_simp
    rw [hs]
    by_cases hc : c = i
    · subst hc
      simp [Result.andThen, sliced]
    · simp only [Result.andThen, sliced, Int.toNat_natCast, if_neg hc, Nat.mul_one]
      try simp
  · by_cases h0 : i = e
    · subst h0
      exact ⟨by rw [ByteArray.size_extract]; omega, by omega, by omega, fun h => by omega⟩
    · obtain ⟨b, off, rfl, hb, hz⟩ := b4 (by omega)
      rw [if_neg (by omega)]
      have := ba_seg hz hb b1 b2 b3 h1 h2
      rw [Option.map_some, show (Addr.add ⟨b, off, none⟩ i) = ⟨b, off + i, none⟩ by unfold Addr.add; split <;> simp_all]
      exact this
theorem conv_ba {W : World} {A : Option Addr} {n c : Nat} {s : ByteArray} (h : BA W A n c s) : (convert 22 9 (.slice A n c)).run Tryz.prog W = .ok (.string s) W := by
  by_cases h0 : n = 0
  · subst h0
    have hs : s = ⟨#[]⟩ := by
      have h1 : s.size = 0 := h.1.symm
      apply ByteArray.ext
      exact Array.eq_empty_of_size_eq_zero h1
    subst hs
    clear h
    cases A <;> first | rfl | (simp [convert]; done) | kernel_rfl
  · obtain ⟨b1, b2, b3, b4⟩ := h
    obtain ⟨b, off, rfl, hb, hz⟩ := b4 (by omega)
    have := conv_sub hz 0 n c (Nat.zero_le _) (by omega)
    rw [Nat.add_zero, Nat.sub_zero, b1] at this
    rw [b1, this, ByteArray.extract_zero_size]
theorem BA.nil (W : World) : BA W none 0 0 ⟨#[]⟩ := ⟨rfl, Nat.le_refl _, by decide, fun h => absurd h (by decide)⟩
/-- A part of the bytes, from a place of the text up to another one. -/
def sliceF (s : ByteArray) (l : List It) (i k : Int) : ByteArray := if (0 ≤ i ∧ i ≤ l.length) ∧ (0 ≤ k ∧ k ≤ l.length) ∧ i ≤ k then s.extract (rawF s l i.toNat) (rawF s l k.toNat) else ⟨#[]⟩
theorem flSlice_any (g : Nat) (s : ByteArray) (l : List It) (i k : Int) (w : World) (h : FL w g s l) (hm : s.size ≤ 1000000) (hle : ∀ a b : Nat, a ≤ b → b ≤ l.length → rawF s l a ≤ rawF s l b) (hbd : ∀ a : Nat, a ≤ l.length → rawF s l a ≤ s.size) :
    Calls Tryz.prog 28 #[.pointer (some ⟨g, 0, none⟩), .int .i64 i, .int .i64 k] w fun e w' => ∃ A n c, e = .returned (.slice A n c) ∧ BA w' A n c (sliceF s l i k) ∧ Below w.heap.size w w' := by
  have HR1 := hid (Raw_any g s l i w h)
  have HR2 := hid (Raw_any g s l k w h)
  by_cases hc : (0 ≤ i ∧ i ≤ l.length) ∧ (0 ≤ k ∧ k ≤ l.length) ∧ i ≤ k
  · have HS := hid (show sliceF s l i k = s.extract (rawF s l i.toNat) (rawF s l k.toNat) by unfold sliceF; rw [if_pos hc])
    rw [if_pos hc.1, decide_eq_true hc.1] at HR1
    rw [if_pos hc.2.1, decide_eq_true hc.2.1] at HR2
    have hab := hle i.toNat k.toNat (by omega) (by omega)
    have hbs := hbd k.toNat (by omega)
    have hki : ¬ k < i := by omega
    generalize rawF s l i.toNat = a at *
    generalize rawF s l k.toNat = b at *
    obtain ⟨A, n, cap, A2, m, cap2, h1, h2, h3⟩ := h
    have x0 := h1.cell 0
    simp only [List.getElem?_toArray, List.getElem?_cons_zero, List.getElem?_cons_succ] at x0
    obtain ⟨A', c', hsl, hba'⟩ := slice_ba h2 hab (by rw [h2.1]; exact hbs)
    obtain ⟨z, hz⟩ : ∃ z, z = s.extract a b := ⟨_, rfl⟩
    rw [← hz] at hba' HS
    have HCL := hid (bclone_any A' (b - a) c' z w hba' (by omega))
    clear h1 h2 h3 hba' hc hab hbs hz
    go_enter Tryz.func28, Tryz.ntmps28
    go_wp2_with fail
    refine HR1.out.mono ?_
    rintro e w2 ⟨rfl, hw2⟩
    obtain rfl := hw2
    go_wp2_with fail
    refine HR2.out.mono ?_
    rintro e w3 ⟨rfl, hw3⟩
    obtain rfl := hw3
    go_wp2_with fail
    refine HCL.out.mono ?_
    rintro e w4 ⟨v, rfl, hr, hb⟩
    obtain ⟨A4, c4, rfl⟩ := owns_slice hr
    have HBA := hid (BA.of_own hr)
    have HB := hid hb
    clear hr hb
    go_wp2_with fail
    go_ret
    exact ⟨_, _, _, rfl, by rw [HS.out]; exact HBA.out, HB.out⟩
  · have HS := hid (show sliceF s l i k = ⟨#[]⟩ by unfold sliceF; rw [if_neg hc])
    have HC := hid hc
    have HEND := hid (show ∃ A n c, (Ending.returned (.slice none 0 0)) = .returned (.slice A n c) ∧ BA w A n c (sliceF s l i k) ∧ Below w.heap.size w w from ⟨none, 0, 0, rfl, by rw [HS.out]; exact BA.nil _, Below.refl _ _⟩)
    obtain ⟨b1, hb1⟩ : ∃ b1, b1 = decide (0 ≤ i ∧ i ≤ (l.length : Int)) := ⟨_, rfl⟩
    obtain ⟨b2, hb2⟩ : ∃ b2, b2 = decide (0 ≤ k ∧ k ≤ (l.length : Int)) := ⟨_, rfl⟩
    rw [← hb1] at HR1
    rw [← hb2] at HR2
    obtain ⟨z1, hz1⟩ : ∃ z1 : Int, z1 = ((if 0 ≤ i ∧ i ≤ (l.length : Int) then ((rawF s l i.toNat : Nat) : Int) else 0)) := ⟨_, rfl⟩
    obtain ⟨z2, hz2⟩ : ∃ z2 : Int, z2 = ((if 0 ≤ k ∧ k ≤ (l.length : Int) then ((rawF s l k.toNat : Nat) : Int) else 0)) := ⟨_, rfl⟩
    have HR1 := hid (HR1.out.mono (fun e w' hh => show e = .returned (.tuple #[.int .i64 z1, .bool b1]) ∧ w' = w from ⟨by rw [hh.1, hz1], hh.2⟩))
    have HR2 := hid (HR2.out.mono (fun e w' hh => show e = .returned (.tuple #[.int .i64 z2, .bool b2]) ∧ w' = w from ⟨by rw [hh.1, hz2], hh.2⟩))
    have hbb : b1 = false ∨ b2 = false ∨ (b1 = true ∧ b2 = true ∧ k < i) := by
      cases hx : b1 with
      | false => exact .inl rfl
      | true =>
        cases hy : b2 with
        | false => exact .inr (.inl rfl)
        | true =>
          right; right
          rw [hx] at hb1
          rw [hy] at hb2
          have h1 := of_decide_eq_true hb1.symm
          have h2 := of_decide_eq_true hb2.symm
          refine ⟨rfl, rfl, ?_⟩
          apply Classical.byContradiction
          intro hn
          exact hc ⟨h1, h2, by omega⟩
    clear h hb1 hb2 hz1 hz2 hc hle hbd
    rcases hbb with rfl | rfl | ⟨rfl, rfl, hlt⟩
    · go_enter Tryz.func28, Tryz.ntmps28
      go_wp2_with fail
      refine HR1.out.mono ?_
      rintro e w2 ⟨rfl, hw2⟩
      obtain rfl := hw2
      go_wp2_with fail
      refine HR2.out.mono ?_
      rintro e w3 ⟨rfl, hw3⟩
      obtain rfl := hw3
      go_wp2_with fail
      go_ret
      exact HEND.out
    · cases b1 with
      | true =>
        go_enter Tryz.func28, Tryz.ntmps28
        go_wp2_with fail
        refine HR1.out.mono ?_
        rintro e w2 ⟨rfl, hw2⟩
        obtain rfl := hw2
        go_wp2_with fail
        refine HR2.out.mono ?_
        rintro e w3 ⟨rfl, hw3⟩
        obtain rfl := hw3
        go_wp2_with fail
        go_ret
        exact HEND.out
      | false =>
        go_enter Tryz.func28, Tryz.ntmps28
        go_wp2_with fail
        refine HR1.out.mono ?_
        rintro e w2 ⟨rfl, hw2⟩
        obtain rfl := hw2
        go_wp2_with fail
        refine HR2.out.mono ?_
        rintro e w3 ⟨rfl, hw3⟩
        obtain rfl := hw3
        go_wp2_with fail
        go_ret
        exact HEND.out
    · go_enter Tryz.func28, Tryz.ntmps28
      go_wp2_with fail
      refine HR1.out.mono ?_
      rintro e w2 ⟨rfl, hw2⟩
      obtain rfl := hw2
      go_wp2_with fail
      refine HR2.out.mono ?_
      rintro e w3 ⟨rfl, hw3⟩
      obtain rfl := hw3
      go_wp2_with fail
      go_ret
      exact HEND.out
end Go.Proofs.YtlfbgaknljdanaaGreatDoor

/- out of FlD2 -/
namespace Go.Proofs.YtlfbgaknljdanaaGreatDoor
open Go.RowKit Go.Shelf
open Go.Lib (hid)
set_option linter.unusedVariables false
set_option linter.unusedSimpArgs false
set_option maxRecDepth 100000

def itZ : Array Value := #[.int .i32 0, .int .i64 0, .int .i64 0, .bool false, .bool false, .bool false, .bool false]
/-- An item's cells, stored one by one. -/
def set7 (w : World) (r : Nat) (x : It) : World :=
  ((((((w.setCell ⟨r, 0, none⟩ (.int .i32 x.r)).setCell ⟨r, 1, none⟩ (.int .i64 x.at_)).setCell ⟨r, 2, none⟩ (.int .i64 x.sz)).setCell ⟨r, 3, none⟩ (.bool x.fo)).setCell ⟨r, 4, none⟩ (.bool x.ch)).setCell ⟨r, 5, none⟩ (.bool x.nb)).setCell ⟨r, 6, none⟩ (.bool x.pr)
theorem set7_blk {w : World} {r : Nat} {x : It} (h : Blk w r 34 itZ) : Blk (set7 w r x) r 34 (itC x).toArray := by
  have := ((((((h.set_ 0 (.int .i32 x.r)).set_ 1 (.int .i64 x.at_)).set_ 2 (.int .i64 x.sz)).set_ 3 (.bool x.fo)).set_ 4 (.bool x.ch)).set_ 5 (.bool x.nb)).set_ 6 (.bool x.pr)
  show Blk _ _ _ _
  unfold set7
  simpa [itZ, itC] using this
theorem set7_below {w w0 : World} {B r : Nat} {x : It} (hB : B ≤ r) (h : Below B w0 w) : Below B w0 (set7 w r x) :=
  (((((((h.setCell (p := ⟨r, 0, none⟩) hB (.int .i32 x.r)).setCell (p := ⟨r, 1, none⟩) hB (.int .i64 x.at_)).setCell (p := ⟨r, 2, none⟩) hB (.int .i64 x.sz)).setCell (p := ⟨r, 3, none⟩) hB (.bool x.fo)).setCell (p := ⟨r, 4, none⟩) hB (.bool x.ch)).setCell (p := ⟨r, 5, none⟩) hB (.bool x.nb)).setCell (p := ⟨r, 6, none⟩) hB (.bool x.pr))
def itNone : It := ⟨0, 0, 0, false, false, false, false⟩
/-- What Item answers. -/
def itemV (l : List It) (i : Int) : Value := if h : 0 ≤ i ∧ i < l.length then .tuple #[.agg (itC (l[i.toNat]'(by omega))).toArray, .bool true] else .tuple #[.agg (itC itNone).toArray, .bool false]
set_option maxHeartbeats 4000000 in
theorem flItem_any (g : Nat) (s : ByteArray) (l : List It) (i : Int) (w : World) (h : FL w g s l) :
    Calls Tryz.prog 30 #[.pointer (some ⟨g, 0, none⟩), .int .i64 i] w fun e w' => e = .returned (itemV l i) ∧ Below w.heap.size w w' := by
  have hb1 : Below w.heap.size w (w.alloc (.cells itZ 34)) := (Below.refl w.heap.size w).alloc (Nat.le_refl _) _
  have hL := flLen_any g s l (w.alloc (.cells itZ 34)) (h.below hb1 (Nat.le_refl _))
  have hK := Blk.new w 34 itZ
  obtain ⟨A, n, cap, A2, m, cap2, h1, h2, h3⟩ := h
  have h1' := h1.alloc (.cells itZ 34)
  have x1 := h1'.cell 1
  have h3' := h3.below hb1 (Nat.le_refl _)
  simp only [List.getElem?_toArray, List.getElem?_cons_zero, List.getElem?_cons_succ] at x1
  have HM := hid h3.1
  rw [← h3.1] at hL
  clear h1 h2 h3 h1'
  have yf := hK.frozen
  have z0 := hK.cell 0
  have z1 := hK.cell 1
  have z2 := hK.cell 2
  have z3 := hK.cell 3
  have z4 := hK.cell 4
  have z5 := hK.cell 5
  have z6 := hK.cell 6
  simp only [itZ, List.getElem?_toArray, List.getElem?_cons_zero, List.getElem?_cons_succ] at z0 z1 z2 z3 z4 z5 z6
  have HL := hid hL
  have HK := hid hK
  have HB1 := hid hb1
  clear hL hK hb1
  simp only [itZ] at x1 h3' HL yf z0 z1 z2 z3 z4 z5 z6
  have HE : ∀ (w1 : World) (x : It), Blk w1 w.heap.size 34 itZ → Below w.heap.size w w1 → Hid (Blk (set7 w1 w.heap.size x) w.heap.size 34 (itC x).toArray ∧ Below w.heap.size w (set7 w1 w.heap.size x)) := fun w1 x h1 h2 => ⟨set7_blk h1, set7_below (Nat.le_refl _) h2⟩
  unfold itZ at HK HB1
  obtain ⟨vv, hvv⟩ : ∃ vv, vv = itemV l i := ⟨_, rfl⟩
  rw [← hvv]
  go_enter Tryz.func30, Tryz.ntmps30
  go_upto_region 1 with fail
  generalize w.alloc (.cells #[.int .i32 0, .int .i64 0, .int .i64 0, .bool false, .bool false, .bool false, .bool false] 34) = w1 at *
  by_cases hi : 0 ≤ i ∧ i < (m : Int)
  · obtain ⟨k, rfl⟩ := Int.eq_ofNat_of_zero_le hi.1
    have hk : k < l.length := by have := HM.out; omega
    have HV : Hid (vv = .tuple #[.agg (itC l[k]).toArray, .bool true]) := by
      show _ = _
      rw [hvv]; unfold itemV; rw [dif_pos ⟨by omega, by omega⟩]; rfl
    obtain ⟨gi, rfl, hgl, y0, y1, y2, y3, y4, y5, y6⟩ := h3'.at_ hk
    have hi1 : ¬ (k : Int) < 0 := by omega
    have hi2 : (k : Int) < (m : Int) := hi.2
    have hi3 : ¬ (m : Int) ≤ (k : Int) := by omega
    have HX := HE w1 l[k] HK.out HB1.out
    clear h3' hi HE hvv
    generalize l[k] = t at *
    obtain ⟨tr, ta, tz, tf, tc, tn, tp⟩ := t
    simp only at y0 y1 y2 y3 y4 y5 y6
    go_wp2_with fail
    refine HL.out.mono ?_
    rintro e w2 ⟨rfl, hw2⟩
    obtain rfl := hw2
    go_wp2_with fail
    change bodyPost _ _ _ _ _ (set7 w2 w.heap.size ⟨tr, ta, tz, tf, tc, tn, tp⟩)
    generalize set7 w2 w.heap.size ⟨tr, ta, tz, tf, tc, tn, tp⟩ = W at *
    exact bodyPost_ret (results_row_tmp rfl _ _ w.heap.size _ _ _ _ rfl HX.out.1 Tryz.underlying34 rfl (by kernel_rfl)) rfl ⟨by rw [HV.out]; rfl, HX.out.2⟩
  · have HV : Hid (vv = .tuple #[.agg (itC itNone).toArray, .bool false]) := by
      show _ = _
      rw [hvv]; unfold itemV; rw [dif_neg (by rw [← HM.out]; exact hi)]
    clear hvv
    have HX := HE w1 itNone HK.out HB1.out
    clear h3' HE
    by_cases hi0 : i < 0
    · clear hi
      go_wp2_with fail
      change bodyPost _ _ _ _ _ (set7 w1 w.heap.size itNone)
      generalize set7 w1 w.heap.size itNone = W at *
      exact bodyPost_ret (results_row_tmp rfl _ _ w.heap.size _ _ _ _ rfl HX.out.1 Tryz.underlying34 rfl (by kernel_rfl)) rfl ⟨by rw [HV.out]; rfl, HX.out.2⟩
    · have hi1 : ¬ i < (m : Int) := by omega
      have hi2 : (m : Int) ≤ i := by omega
      clear hi
      go_wp2_with fail
      refine HL.out.mono ?_
      rintro e w2 ⟨rfl, hw2⟩
      obtain rfl := hw2
      go_wp2_with fail
      change bodyPost _ _ _ _ _ (set7 w2 w.heap.size itNone)
      generalize set7 w2 w.heap.size itNone = W at *
      exact bodyPost_ret (results_row_tmp rfl _ _ w.heap.size _ _ _ _ rfl HX.out.1 Tryz.underlying34 rfl (by kernel_rfl)) rfl ⟨by rw [HV.out]; rfl, HX.out.2⟩
end Go.Proofs.YtlfbgaknljdanaaGreatDoor

/- out of FlF -/
namespace Go.Proofs.YtlfbgaknljdanaaGreatDoor
open Go.RowKit Go.Shelf
open Go.Lib (hid)
set_option linter.unusedVariables false
set_option linter.unusedSimpArgs false
set_option maxRecDepth 100000

/-- A slice that reads as items, from a place of its block on. -/
def IRo (w : World) (A : Option Addr) (n : Nat) (l : List It) : Prop :=
  n = l.length ∧ (0 < n → ∃ g o, A = some ⟨g, o, none⟩ ∧ g < w.heap.size ∧ ∀ (j : Nat) (h : j < l.length) (f : Nat), f < 7 → w.cell? ⟨g, o + j * 7 + f, none⟩ = (itC l[j])[f]?)
theorem IRo.below {w w' : World} {A : Option Addr} {n B : Nat} {l : List It} (h : IRo w A n l) (hb : Below B w w') (hB : w.heap.size ≤ B) : IRo w' A n l :=
  ⟨h.1, fun hn => by
    obtain ⟨g, o, e, hg, hz⟩ := h.2 hn
    exact ⟨g, o, e, Nat.lt_of_lt_of_le hg hb.size, fun j hj f hf => (hb.cell (p := ⟨g, o + j * 7 + f, none⟩) (by show g < B; omega)).trans (hz j hj f hf)⟩⟩
theorem IRo.at_ {w : World} {A : Option Addr} {n : Nat} {l : List It} (h : IRo w A n l) {j : Nat} (hj : j < l.length) : ∃ g o, A = some ⟨g, o, none⟩ ∧ g < w.heap.size ∧ w.cell? ⟨g, o + j * 7, none⟩ = some (.int .i32 l[j].r) ∧ w.cell? ⟨g, o + j * 7 + 1, none⟩ = some (.int .i64 l[j].at_) ∧ w.cell? ⟨g, o + j * 7 + 2, none⟩ = some (.int .i64 l[j].sz) ∧ w.cell? ⟨g, o + j * 7 + 3, none⟩ = some (.bool l[j].fo) ∧ w.cell? ⟨g, o + j * 7 + 4, none⟩ = some (.bool l[j].ch) ∧ w.cell? ⟨g, o + j * 7 + 5, none⟩ = some (.bool l[j].nb) ∧ w.cell? ⟨g, o + j * 7 + 6, none⟩ = some (.bool l[j].pr) := by
  have h1 := h.1
  obtain ⟨g, o, e, hg, hz⟩ := h.2 (by omega)
  exact ⟨g, o, e, hg, hz j hj 0 (by decide), hz j hj 1 (by decide), hz j hj 2 (by decide), hz j hj 3 (by decide), hz j hj 4 (by decide), hz j hj 5 (by decide), hz j hj 6 (by decide)⟩
theorem IR.one {w : World} {g n : Nat} {l : List It} (h : IR w (some ⟨g, 0, none⟩) n l) {i : Nat} (hi : i < l.length) : IRo w (some ⟨g, i * 7, none⟩) 1 [l[i]] := by
  refine ⟨rfl, fun _ => ?_⟩
  obtain ⟨g', e, hg, hz⟩ := h.2 (by have := h.1; omega)
  cases e
  refine ⟨g, i * 7, rfl, hg, fun j hj f hf => ?_⟩
  have hj0 : j = 0 := by simpa using hj
  subst hj0
  rw [Nat.zero_mul, Nat.add_zero]
  exact hz i hi f hf
theorem slice_it (g n cap i : Nat) (hi : i < n) (hcap : n ≤ cap) (W : World) : (Instr.slice 36 (.slice (some ⟨g, 0, none⟩) n cap) (some (.int .i64 i)) (some (.int .i64 ((i + 1 : Nat) : Int))) none).run Tryz.prog W = .ok (.slice (some ⟨g, i * 7, none⟩) 1 (cap - i)) W := by
  rw [run_slice_lh (P := Tryz.prog) W 36 _ n cap rfl .i64 .i64 i ((i + 1 : Nat) : Int) (by omega) (by omega) (by omega)]
  have hs : (sizeOf (Tryz.prog.elem 36)).run Tryz.prog W = .ok 7 W := by go_simp
  rw [hs]
  have hne : ¬ cap = i := by omega
  have h1 : i + 1 - i = 1 := by omega
  simp only [Result.andThen, sliced, Int.toNat_natCast, if_neg hne, Option.map_some, h1]
  simp [Addr.add]
  try (intro h; omega)
set_option maxHeartbeats 8000000 in
theorem itemsIsO_any (A A' : Option Addr) (n cap cap' : Nat) (l : List It) (w : World) (h1 : IR w A n l) (h2 : IRo w A' n l) (hn : n ≤ 1000000) :
    Calls Tryz.prog 19 #[.slice A n cap, .slice A' n cap'] w fun e w' => e = .returned (.bool true) ∧ Below w.heap.size w w' := by
  have HM := hid h1.1
  have H1 := hid h1
  have H2 := hid h2
  clear h1 h2
  go_enter Tryz.func19, Tryz.ntmps19
  go_wp2_with fail
  go_loopg [5] n (fun kx s5 wr => ∃ i : Nat, s5 = .int .i64 i ∧ i ≤ n ∧ n - i ≤ kx ∧ Hid (Below w.heap.size w wr))
  case atStart => exact ⟨0, rfl, Nat.zero_le _, Nat.le_refl _, Below.refl _ _⟩
  case round =>
    obtain ⟨i, rfl, hi, hg, HB⟩ := hrel
    by_cases hlt : i < n
    · have hlt' : (i : Int) < (n : Int) := by omega
      have hil : i < l.length := by rw [← HM.out]; exact hlt
      obtain ⟨g, rfl, hgl, x0, x1, x2, x3, x4, x5, x6⟩ := (H1.out.below HB.out (Nat.le_refl _)).at_ hil
      obtain ⟨d, o, rfl, hdl, y0, y1, y2, y3, y4, y5, y6⟩ := (H2.out.below HB.out (Nat.le_refl _)).at_ hil
      generalize l[i] = t at *
      obtain ⟨tr, ta, tz, tf, tc, tn, tp⟩ := t
      simp only at x0 x1 x2 x3 x4 x5 x6 y0 y1 y2 y3 y4 y5 y6
      have hs := HB.out.size
      go_upto_region 6 with fail
      go_region
      · have q1 := ((Blk.new wr 34 #[.int .i32 tr, .int .i64 ta, .int .i64 tz, .bool tf, .bool tc, .bool tn, .bool tp]).alloc (.cells #[.int .i32 tr, .int .i64 ta, .int .i64 tz, .bool tf, .bool tc, .bool tn, .bool tp] 39)).drew
        have q2 := (Blk.new (wr.alloc (.cells #[.int .i32 tr, .int .i64 ta, .int .i64 tz, .bool tf, .bool tc, .bool tn, .bool tp] 34)) 39 #[.int .i32 tr, .int .i64 ta, .int .i64 tz, .bool tf, .bool tc, .bool tn, .bool tp]).drew
        rw [World.size_alloc] at q2
        have a0 := q1.cell 0
        have a1 := q1.cell 1
        have a2 := q1.cell 2
        have a3 := q1.cell 3
        have a4 := q1.cell 4
        have a5 := q1.cell 5
        have a6 := q1.cell 6
        have b0 := q2.cell 0
        have b1 := q2.cell 1
        have b2 := q2.cell 2
        have b3 := q2.cell 3
        have b4 := q2.cell 4
        have b5 := q2.cell 5
        have b6 := q2.cell 6
        simp only [List.getElem?_toArray, List.getElem?_cons_zero, List.getElem?_cons_succ] at a0 a1 a2 a3 a4 a5 a6 b0 b1 b2 b3 b4 b5 b6
        have HB7 := hid (((HB.out.alloc hs (.cells #[.int .i32 tr, .int .i64 ta, .int .i64 tz, .bool tf, .bool tc, .bool tn, .bool tp] 34)).alloc (by simp; omega) (.cells #[.int .i32 tr, .int .i64 ta, .int .i64 tz, .bool tf, .bool tc, .bool tn, .bool tp] 39)).drew)
        clear q1 q2 x0 x1 x2 x3 x4 x5 x6 y0 y1 y2 y3 y4 y5 y6
        generalize ((wr.alloc (.cells #[.int .i32 tr, .int .i64 ta, .int .i64 tz, .bool tf, .bool tc, .bool tn, .bool tp] 34)).alloc (.cells #[.int .i32 tr, .int .i64 ta, .int .i64 tz, .bool tf, .bool tc, .bool tn, .bool tp] 39)).drew = w7 at *
        go_wp2_with fail
        go_roundg (n - (i + 1))
        case measure => omega
        case rel => exact ⟨i + 1, by go_num, by omega, Nat.le_refl _, HB7.out⟩
      · have q1 := ((Blk.new wr 39 #[.int .i32 tr, .int .i64 ta, .int .i64 tz, .bool tf, .bool tc, .bool tn, .bool tp]).alloc (.cells #[.int .i32 tr, .int .i64 ta, .int .i64 tz, .bool tf, .bool tc, .bool tn, .bool tp] 34)).drew
        have q2 := (Blk.new (wr.alloc (.cells #[.int .i32 tr, .int .i64 ta, .int .i64 tz, .bool tf, .bool tc, .bool tn, .bool tp] 39)) 34 #[.int .i32 tr, .int .i64 ta, .int .i64 tz, .bool tf, .bool tc, .bool tn, .bool tp]).drew
        rw [World.size_alloc] at q2
        have a0 := q1.cell 0
        have a1 := q1.cell 1
        have a2 := q1.cell 2
        have a3 := q1.cell 3
        have a4 := q1.cell 4
        have a5 := q1.cell 5
        have a6 := q1.cell 6
        have b0 := q2.cell 0
        have b1 := q2.cell 1
        have b2 := q2.cell 2
        have b3 := q2.cell 3
        have b4 := q2.cell 4
        have b5 := q2.cell 5
        have b6 := q2.cell 6
        simp only [List.getElem?_toArray, List.getElem?_cons_zero, List.getElem?_cons_succ] at a0 a1 a2 a3 a4 a5 a6 b0 b1 b2 b3 b4 b5 b6
        have HB7 := hid (((HB.out.alloc hs (.cells #[.int .i32 tr, .int .i64 ta, .int .i64 tz, .bool tf, .bool tc, .bool tn, .bool tp] 39)).alloc (by simp; omega) (.cells #[.int .i32 tr, .int .i64 ta, .int .i64 tz, .bool tf, .bool tc, .bool tn, .bool tp] 34)).drew)
        clear q1 q2 x0 x1 x2 x3 x4 x5 x6 y0 y1 y2 y3 y4 y5 y6
        generalize ((wr.alloc (.cells #[.int .i32 tr, .int .i64 ta, .int .i64 tz, .bool tf, .bool tc, .bool tn, .bool tp] 39)).alloc (.cells #[.int .i32 tr, .int .i64 ta, .int .i64 tz, .bool tf, .bool tc, .bool tn, .bool tp] 34)).drew = w7 at *
        go_wp2_with fail
        go_roundg (n - (i + 1))
        case measure => omega
        case rel => exact ⟨i + 1, by go_num, by omega, Nat.le_refl _, HB7.out⟩
    · have hlt' : ¬ (i : Int) < (n : Int) := by omega
      clear hlt hg
      go_wp2_with fail
      go_ret
      exact ⟨rfl, HB.out⟩
end Go.Proofs.YtlfbgaknljdanaaGreatDoor
