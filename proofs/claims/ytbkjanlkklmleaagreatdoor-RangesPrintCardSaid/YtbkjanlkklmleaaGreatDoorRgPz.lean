/- Chapter 02: the program's Print: the walk. -/
import Derived.Test.YtbkjanlkklmleaaGreatDoorRgPx
namespace Go.Proofs.YtbkjanlkklmleaaGreatDoor
open Go.RowKit
open Go.Shelf
open Go.Lib (hid)
set_option linter.unusedVariables false
set_option maxRecDepth 100000

theorem info_strP : (Tryz.prog.info? 9).map (fun i => (i.zero, i.size, i.bytes)) = some (some (.string ⟨#[]⟩), 1, 16) := by kernel_rfl
/-- Ranges' texts, as cells. -/
def itC (l : List Rg) : List Value := l.map fun x => .string (mkB (itemD x))
theorem itC_snoc (l : List Rg) (x : Rg) : itC (l ++ [x]) = itC l ++ [.string (mkB (itemD x))] := by simp [itC]
theorem itC_len (l : List Rg) : (itC l).length = l.length := by simp [itC]
theorem join_acc : ∀ (l : List Rg), Lib.join ((l.map fun x => mkB (itemD x)).map (·.data.toList)) [44] = accP l := by
  intro l
  cases l with
  | nil => rfl
  | cons x l =>
    rw [List.map_cons, List.map_cons, Lib.join_cons]
    show itemD x ++ _ = itemD x ++ tailD l
    congr 1
    induction l with
    | nil => rfl
    | cons y l ih =>
      unfold Lib.joinTail at *
      rw [List.map_cons, List.map_cons, List.map_cons, List.flatten_cons, ih]
      rfl
theorem joinit_any {w : World} {B n : Nat} {v : Value} {l : List Rg} (h : w.ownsRow B 9 1 v n (itC l)) (hne : l ≠ []) (hl : n ≤ 1000000) (hok : ∀ x ∈ l, okR x) :
    Calls Tryz.prog 17 #[v, .string ⟨#[44]⟩] w fun e w' => e = .returned (.string (mkB (printD l))) ∧ Below w.heap.size w w' := by
  have hn := h.1
  rw [itC_len, Nat.mul_one] at hn
  subst hn
  obtain ⟨A, c, rfl, h1, h2, hc⟩ := owns_form h
  have h0 : 0 < l.length := List.length_pos_iff.2 hne
  obtain ⟨g, rfl, hg0, hg, hcell⟩ := hc h0
  have := Any.strings_Join (P := Tryz.prog) Tryz.lays156 extraB2 g 0 c (l.map fun x => mkB (itemD x)) ⟨#[44]⟩ w (fun j x hx => by
    rw [List.getElem?_map] at hx
    obtain ⟨z, hz, rfl⟩ := Option.map_eq_some_iff.1 hx
    have hj : j < l.length := (List.getElem?_eq_some_iff.1 hz).1
    rw [Nat.zero_add, hcell j (by omega)]
    unfold itC
    rw [List.getElem?_map, hz]
    rfl) hg (by rw [List.length_map]; omega) (by rw [List.length_map]; omega) (by
      show (Lib.join _ [44]).length ≤ _
      rw [join_acc]
      have := accP_len hok
      omega)
  rw [List.length_map] at this
  rw [printD_acc hne]
  have e : (Lib.join ((l.map fun x => mkB (itemD x)).map (·.data.toList)) (⟨#[44]⟩ : ByteArray).data.toList) = accP l := join_acc l
  rw [e] at this
  exact this
theorem reads_blk1 {w : World} {q : Nat} {t : TypeId} {x : Value} (h : Blk w q t #[x]) : Reads w w.heap.size 1 (some ⟨q, 0, none⟩) 1 [x] := by
  refine ⟨rfl, fun _ => ⟨_, rfl, h.lt, fun j u hu => ?_⟩⟩
  rw [show (Addr.add ⟨q, 0, none⟩ j) = ⟨q, 0 + j, none⟩ by unfold Addr.add; split <;> simp_all, Nat.zero_add, h.cell j]
  simpa using hu
set_option maxHeartbeats 4000000 in
theorem print_any (a : Option Addr) (n cap : Nat) (l : List Rg) (w : World) (hl : RR w a n cap l) (hn : n ≤ 1000000) (h32 : In32 l) (hdb : Db w) :
    Calls Tryz.prog 6 #[.slice a n cap] w fun e w' => e = .returned (.string (mkB (printD (knownL l)))) ∧ Below w.heap.size w w' := by
  obtain ⟨i0, hi, hi0, hi1z, hi2z⟩ := info_parts info_strP
  have HK := hid (known_any a n cap l w hl hn h32)
  have HOK := hid (right_ok (knownL_right l))
  have hkl := knownL_len l
  rw [← hl.1] at hkl
  have HDB := hid hdb
  generalize knownL l = k at *
  clear hl h32 hdb
  go_enter Tryz.func6, Tryz.ntmps6
  go_wp2_with fail
  refine HK.out.mono ?_
  rintro e w1 ⟨A1, n1, c1, rfl, hr1, hb1⟩
  have HR := hid hr1
  have HB1 := hid hb1
  have HN := hid hr1.1
  have HDB1 := hid (HDB.out.below hb1 (Nat.le_refl _))
  have hn1 : n1 ≤ 1000000 := by have := hr1.1; omega
  clear hr1 hb1 HK hkl
  have hB1 := HB1.out.size
  go_wp2_with fail
  go_loopg [3, 10] n1 (fun kx s3 s10 wr => ∃ (i c : Nat) (A : Option Addr), s3 = .slice A i c ∧ s10 = .int .i64 i ∧ i ≤ n1 ∧ n1 - i ≤ kx ∧ Hid (wr.ownsRow w1.heap.size 9 1 (.slice A i c) i (itC (k.take i))) ∧ Hid (Below w1.heap.size w1 wr))
  case atStart => exact ⟨0, 0, none, rfl, rfl, Nat.zero_le _, by omega, World.ownsRow_nil _ _ _ _, Below.refl _ _⟩
  case round =>
    obtain ⟨i, c, A, rfl, rfl, hi1, hg, HROW, HB⟩ := hrel
    have hszr := HB.out.size
    by_cases hlt : i < n1
    · have hlt' : (i : Int) < (n1 : Int) := by omega
      have hil : i < k.length := by have := HN.out; omega
      obtain ⟨b, off, rfl, hbl, c0, c1⟩ := (HR.out.below HB.out (Nat.le_refl _)).at hil
      obtain ⟨o1, o2, o3⟩ := HOK.out k[i] (List.getElem_mem hil)
      have htk : itC (k.take (i + 1)) = itC (k.take i) ++ [.string (mkB (itemD k[i]))] := by rw [List.take_add_one, List.getElem?_eq_getElem hil]; exact itC_snoc _ _
      generalize k[i] = x at *
      obtain ⟨lo, hi2⟩ := x
      simp only at c0 c1 o1 o2 o3
      have HTK := hid htk
      have hit : itemD (lo, hi2) = hex4D lo.toNat ++ (if lo = hi2 then [] else 45 :: hex4D hi2.toNat) := rfl
      have HIT := hid hit
      have HROW3 := hid (HROW.out.alloc (.cells #[.int .i32 lo, .int .i32 hi2] 39))
      have HB3 := hid (HB.out.alloc hszr (.cells #[.int .i32 lo, .int .i32 hi2] 39))
      have HX := hid (Blk.new wr 39 #[.int .i32 lo, .int .i32 hi2])
      clear htk hit
      go_upto_region 5 with fail
      generalize wr.alloc (.cells #[.int .i32 lo, .int .i32 hi2] 39) = w5 at *
      have hs5 := HB3.out.size
      have hx0 : w5.cell? ⟨wr.heap.size, 0, none⟩ = some (.int .i32 lo) := HX.out.cell 0
      have hx5 := HX.out.lt
      have HH := hid (hex_any lo (by omega) (by omega) w5 (HDB1.out.below HB3.out (Nat.le_refl _)))
      go_wp2_with fail
      refine HH.out.mono ?_
      rintro e w6 ⟨rfl, hb6⟩
      have HB6 := hid hb6
      clear hb6
      have hs6 := HB6.out.size
      have hx0 := (HB6.out.cell (p := ⟨wr.heap.size, 0, none⟩) hx5).trans hx0
      have hx1 := (HB6.out.cell (p := ⟨wr.heap.size, 1, none⟩) hx5).trans (show w5.cell? ⟨wr.heap.size, 1, none⟩ = some (.int .i32 hi2) from HX.out.cell 1)
      have HROW6 := hid (HROW3.out.kept (grown_of_below HB6.out none) (by cases h : (Value.slice A i c).ownBlock <;> simp))
      have HB36 := hid (HB3.out.trans (HB6.out.mono hs5))
      have hs36 := HB36.out.size
      have HH2 := hid (hex_any hi2 (by omega) (by omega) w6 (HDB1.out.below HB36.out (Nat.le_refl _)))
      have hz1 : (mkB (hex4D lo.toNat)).size ≤ 6 := by rw [mkB_size]; exact hex4D_len _ (by omega)
      have hz2 : (mkB (hex4D hi2.toNat)).size ≤ 6 := by rw [mkB_size]; exact hex4D_len _ (by omega)
      obtain ⟨p, hp⟩ : ∃ p, p = mkB (hex4D lo.toNat) := ⟨_, rfl⟩
      obtain ⟨q, hq⟩ : ∃ q, q = mkB (hex4D hi2.toNat) := ⟨_, rfl⟩
      rw [← hp] at hz1
      rw [← hq] at hz2 HH2
      rw [← hp]
      have HP := hid hp
      have HQ := hid hq
      have hl : (lo == lo) = true := by simp
      clear hp hq
      by_cases he : lo = hi2
      · have HT := hid (show itC (k.take (i + 1)) = itC (k.take i) ++ [.string p] by rw [HTK.out, HIT.out, if_pos he, List.append_nil, HP.out])
        have hh : (hi2 == lo) = true := by simp [he]
        have hh2 : (lo == hi2) = true := by simp [he]
        have HE := hid he
        clear he
        go_wp2_with (at_builtin; refine wpList_append_any _ rfl (.tmp 30) (.tmp 32) 41 rfl w1.heap.size 9 i0 (.string ⟨#[]⟩) 1 16 Tryz.underlying41 hi hi0 hi1z hi2z rfl (by decide) _ i (itC (k.take i)) rfl (HROW6.out.alloc _) _ _ 1 1 [.string p] rfl (reads_blk1 (Blk.new w6 _ _)) (by simp [Value.oneCell']) (by unfold maxLen; omega) (by omega) (by simp; omega) ?_; intro v1 w7 ho7 hg7 hq7; have HB7 := hid ((HB36.out.alloc hs36 _).grown hg7 (by simp; omega) (own_ge HROW6.out)); obtain ⟨A7, c7, rfl⟩ := owns_slice ho7; have HO7 := hid ho7; clear ho7 hg7 hq7)
        go_roundg (n1 - (i + 1))
        case measure => omega
        case rel => exact ⟨i + 1, c7, A7, rfl, by go_num, by omega, Nat.le_refl _, (by show World.ownsRow _ _ _ _ _ _ _; rw [HT.out]; exact HO7.out), HB7⟩
      · have HT := hid (show itC (k.take (i + 1)) = itC (k.take i) ++ [.string (p ++ (⟨#[45]⟩ ++ q))] by rw [HTK.out, HIT.out, if_neg he, show (45 :: hex4D hi2.toNat : List UInt8) = [45] ++ hex4D hi2.toNat from rfl, mkB_add, mkB_add, HP.out, HQ.out]; rfl)
        have hh : (hi2 == lo) = false := by simp; omega
        have hh2 : (lo == hi2) = false := by simp; omega
        have hc1 : ¬ (1 + q.size > 9223372036854775807) := by omega
        have hc2 : ¬ (9223372036854775807 < 1 + q.size) := by omega
        have hc3 : ¬ (p.size + (1 + q.size) > 9223372036854775807) := by omega
        have hc4 : ¬ (9223372036854775807 < p.size + (1 + q.size)) := by omega
        have hc5 : ¬ (p.size + (⟨#[45]⟩ ++ q : ByteArray).size > 9223372036854775807) := by rw [ByteArray.size_append]; show ¬ (p.size + (1 + q.size) > _); omega
        have hc6 : ¬ (9223372036854775807 < p.size + (⟨#[45]⟩ ++ q : ByteArray).size) := by rw [ByteArray.size_append]; show ¬ (_ < p.size + (1 + q.size)); omega
        have HE := hid he
        clear he
        go_wp2_with fail
        refine HH2.out.mono ?_
        rintro e w8 ⟨rfl, hb8⟩
        have HROW8 := hid (HROW6.out.kept (grown_of_below hb8 none) (by cases h : (Value.slice A i c).ownBlock <;> simp))
        have HB38 := hid (HB36.out.trans (hb8.mono hs36))
        have hs38 := HB38.out.size
        clear hb8
        go_wp2_with (at_builtin; refine wpList_append_any _ rfl (.tmp 30) (.tmp 32) 41 rfl w1.heap.size 9 i0 (.string ⟨#[]⟩) 1 16 Tryz.underlying41 hi hi0 hi1z hi2z rfl (by decide) _ i (itC (k.take i)) rfl (HROW8.out.alloc _) _ _ 1 1 [.string (p ++ (⟨#[45]⟩ ++ q))] rfl (reads_blk1 (Blk.new w8 _ _)) (by simp [Value.oneCell']) (by unfold maxLen; omega) (by omega) (by simp; omega) ?_; intro v1 w7 ho7 hg7 hq7; have HB7 := hid ((HB38.out.alloc hs38 _).grown hg7 (by simp; omega) (own_ge HROW8.out)); obtain ⟨A7, c7, rfl⟩ := owns_slice ho7; have HO7 := hid ho7; clear ho7 hg7 hq7)
        go_roundg (n1 - (i + 1))
        case measure => omega
        case rel => exact ⟨i + 1, c7, A7, rfl, by go_num, by omega, Nat.le_refl _, (by show World.ownsRow _ _ _ _ _ _ _; rw [HT.out]; exact HO7.out), HB7⟩
    · obtain rfl : i = n1 := by omega
      have ht : k.take i = k := List.take_of_length_le (by have := HN.out; omega)
      rw [ht] at HROW
      by_cases hz : i = 0
      · subst hz
        have HE := hid (show k = [] from List.eq_nil_of_length_eq_zero HN.out.symm)
        clear ht
        go_wp2_with fail
        go_ret
        rw [HE.out]
        exact ⟨rfl, HB1.out.trans (HB.out.mono hB1)⟩
      · have hz2 : ((i : Int) == 0) = false := by simp; omega
        have HJ := hid (joinit_any HROW.out (fun e => hz (by rw [HN.out, e]; rfl)) hn1 HOK.out)
        clear ht hz
        go_wp2_with fail
        refine HJ.out.mono ?_
        rintro e w8 ⟨rfl, hb8⟩
        have HB8 := hid ((HB1.out.trans (HB.out.mono hB1)).trans (hb8.mono (Nat.le_trans hB1 HB.out.size)))
        clear hb8
        go_wp2_with fail
        go_ret
        exact ⟨rfl, HB8.out⟩
end Go.Proofs.YtbkjanlkklmleaaGreatDoor
