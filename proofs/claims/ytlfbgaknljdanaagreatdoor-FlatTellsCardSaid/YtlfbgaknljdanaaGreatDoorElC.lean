/- Chapter 21: the map of all names: the walk; Of. -/
import Derived.Test.YtlfbgaknljdanaaGreatDoorElB
import Derived.Test.YtlfbgaknljdanaaGreatDoorElSh
import Derived.Test.YtlfbgaknljdanaaGreatDoorByt
import Derived.Lib.LaidTab
import Derived.Deep.LoopGhost
namespace Go.Proofs.YtlfbgaknljdanaaGreatDoor
open Go.RowKit Go.Maps
open Go.Lib (hid)
set_option linter.unusedVariables false
set_option maxRecDepth 100000

def TabSp (w : World) : Prop := Lib.TabIs Tryz.prog w "strings.asciiSpace" .u8 Lib.asciiSpaceTab
theorem TabSp.below {w w' : World} {B : Nat} (h : TabSp w) (hb : Below B w w') (hB : w.heap.size ≤ B) : TabSp w' := by
  unfold TabSp Lib.TabIs World.var? at *
  cases hg : Tryz.prog.globalNamed "strings.asciiSpace" with
  | none => simp [hg] at h
  | some g =>
    simp only [hg, Option.bind_some] at h ⊢
    have hlt : g < w.heap.size := by
      rcases Nat.lt_or_ge g w.heap.size with h' | h'
      · exact h'
      · rw [Array.getElem?_eq_none h'] at h; simp at h
    rw [hb.block g (by omega)]
    exact h
def elRow (k : Nat) : Array Value := ((elN k).map Value.string).toArray
theorem elRow_at (k j : Nat) (h : j < (elN k).length) : (elRow k)[j]? = some (.string (elN k)[j]) := by
  unfold elRow
  simp [h]
theorem fields_any (k : Nat) (hk : k < 7) (w : World) (ht : TabSp w) : Calls Tryz.prog 98 #[.string (elT k)] w fun e w' => e = .returned (.slice (some ⟨w.heap.size, 0, none⟩) (elN k).length (elN k).length) ∧ w' = w.alloc (.cells (elRow k) 9) := by
  have hf := elT_fields ⟨k, hk⟩
  have hz := elT_size ⟨k, hk⟩
  have ha := elT_ascii ⟨k, hk⟩
  simp only at hf hz ha
  have := Any.strings_Fields_laid (P := Tryz.prog) Tryz.laysEl157 (elT k) w (by omega) (fun j b hj => ha b (List.mem_of_getElem? hj)) ht
  rw [hf] at this
  refine this.mono fun e w' h => ⟨?_, ?_⟩
  · rw [h.1]
    simp
  · rw [h.2]
    unfold elRow
    rw [List.map_map]
    rfl
theorem key_str (x : ByteArray) (hx : x.size ≤ maxLen) : keyOf Tryz.prog 9 (.string x) = some (strL x) := by
  rw [keyOf_string Tryz.underlying9]
  simp [mapKey, Tryz.underlying9, strL, hx]
/-- What the map holds, of the lists that have come. -/
def ElSt (D : DataW Unit) (bp : Nat → Bool) : Prop := ∀ x : ByteArray, D.atKey (strL x) (.lit (.int .i64 0)) = .lit (.int .i64 (valOf fun i => bp i && inN i x))
def ElIn (D : DataW Unit) (bp : Nat → Bool) (k j : Nat) : Prop := ∀ x : ByteArray, D.atKey (strL x) (.lit (.int .i64 0)) = .lit (.int .i64 (valOf (bitsJ bp k j x)))
def LeftOf (left : Lit → Bool) (bp : Nat → Bool) : Prop := (∀ kl, left kl = true → ∃ k, k < 7 ∧ kl = intL (bitI k) ∧ bp k = false) ∧ (∀ k, k < 7 → bp k = false → left (intL (bitI k)) = true)
theorem LeftOf.start : LeftOf (Maps.has elD) (fun _ => false) := ⟨fun kl h => by
  obtain ⟨k, hk, e⟩ := elD_has h
  exact ⟨k, hk, e, rfl⟩, fun k hk _ => elD_has_bit ⟨k, hk⟩⟩
theorem intL_inj {x y : Int} (h : intL x = intL y) : x = y := by injection h
theorem LeftOf.next {left : Lit → Bool} {bp : Nat → Bool} {k : Nat} (hk : k < 7) (h : LeftOf left bp) : LeftOf (fun z => left z && !z.sameKey (intL (bitI k))) (fun i => bp i || i == k) := by
  constructor
  · intro kl hl
    rw [Bool.and_eq_true] at hl
    obtain ⟨i, hi, e, hb⟩ := h.1 kl hl.1
    refine ⟨i, hi, e, ?_⟩
    have hik : i ≠ k := fun e2 => by
      subst e2
      have h2 := hl.2
      rw [e] at h2
      have : (intL (bitI i)).sameKey (intL (bitI i)) = true := by unfold intL; simp [Lit.sameKey]
      rw [this] at h2
      cases h2
    show (bp i || i == k) = false
    rw [hb]
    simpa using hik
  · intro i hi hb
    simp only [Bool.or_eq_false_iff] at hb
    have hik : i ≠ k := by simpa using hb.2
    have hne : intL (bitI i) ≠ intL (bitI k) := fun e => hik (bitI_inj hi hk (intL_inj e))
    rw [Bool.and_eq_true, h.2 i hi hb.1, sameKey_ne hne]
    exact ⟨rfl, rfl⟩
set_option maxHeartbeats 4000000 in
theorem names_any (w : World) (ht : TabSp w) : Calls Tryz.prog 74 #[] w fun e w' => ∃ D n, e = .returned (.map (some w.heap.size)) ∧ w'.ownsMap Tryz.prog 9 (plainElem Tryz.prog 3) w.heap.size n D ∧ ElSt D (fun _ => true) ∧ Below w.heap.size w w' := by
  have hmm := @run_makeMap Tryz.prog
  have HOWN := hid (World.ownsMap_made (H := Unit) w Tryz.prog 9 (plainElem Tryz.prog 3))
  have HB1 := hid ((Below.refl w.heap.size w).alloc (Nat.le_refl _) (.map #[] 0))
  have HLI := hid (fun W => lists_any W)
  have HFI := hid (fun (k : Nat) (hk : k < 7) (W : World) (h : Below w.heap.size w W) => fields_any k hk W (ht.below h (Nat.le_refl _)))
  have hs1 : (w.alloc (.map #[] 0)).heap.size = w.heap.size + 1 := by simp
  clear ht
  go_enter Tryz.func74, Tryz.ntmps74
  go_wp2_with fail
  generalize w.alloc (.map #[] 0) = w1 at *
  refine (HLI.out _).mono ?_
  rintro e w2 ⟨rfl, hl2, hb2⟩
  have HB2 := hid (HB1.out.trans (hb2.mono (by omega)))
  have HM2 := hid (HOWN.out.kept (grown_of_below hb2 none) (by simp))
  rw [hs1] at hl2
  have HL2 := hid hl2
  have hs2 := hb2.size
  have hlt2 := hl2.lt
  clear hb2 hl2 HOWN HLI
  go_wp2_with (first | (at_range; (refine wpList_range_own _ rfl _ 154 rfl 3 9 (int_keyed Tryz.underlying3) Tryz.underlying154 (plainElem Tryz.prog 9) (w.heap.size + 1) 7 elD rfl HL2.out ?_); intro w3 hrg3 hg3 hs3) | go_in)
  go_frame
  have HM3 := hid (HM2.out.kept hg3 (by simp))
  have HB3 := hid (HB2.out.grown hg3 HB2.out.size (fun k e => by cases e))
  have hMr : w.heap.size ≠ w2.heap.size := by omega
  have hLr : w.heap.size + 1 ≠ w2.heap.size := by omega
  have hrB : w.heap.size ≤ w2.heap.size := by omega
  rw [elD_size] at hrg3
  have HR3 := hid hrg3
  clear hrg3 hg3 hs3 HM2 HL2
  generalize w2.heap.size = r at *
  go_loopw [2] (fun _ wr => ∃ (left : Lit → Bool) (cnt nD : Nat) (bp : Nat → Bool) (D : DataW Unit), Hid (wr.ranges Tryz.prog 3 (plainElem Tryz.prog 9) (w.heap.size + 1) r 7 elD left cnt) ∧ Hid (LeftOf left bp) ∧ Hid (wr.ownsMap Tryz.prog 9 (plainElem Tryz.prog 3) w.heap.size nD D) ∧ nD + 50 * cnt ≤ 350 ∧ Hid (ElSt D bp) ∧ Hid (Below w.heap.size w wr))
    (fun _ wr => wr.rangeLeft (w.heap.size + 1) r)
  case atStart => exact ⟨Maps.has elD, 7, 0, fun _ => false, .map [], HR3.out, LeftOf.start, HM3.out, by omega, fun x => rfl, HB3.out⟩
  case round =>
    obtain ⟨left, cnt, nD, bp, D, HR, HLF, HM, hnD, HST, HB⟩ := hrel
    go_wp2_with (first | (at_next; (refine wpList_next_ranges_is _ rfl _ rfl 3 9 .i64 (int_keyed Tryz.underlying3) Tryz.underlying3 Tryz.underlying9 (w.heap.size + 1) r 7 elD left cnt rfl HR.out ?_ ?_)) | go_in)
    · intro hc0 hl0
      have hbp : ∀ i, i < 7 → bp i = true := fun i hi => by
        cases h : bp i with
        | true => rfl
        | false =>
          have := HLF.out.2 i hi h
          rw [hl0] at this
          cases this
      have HFIN := hid (show ElSt D (fun _ => true) from fun x => by
        rw [HST.out x]
        congr 2
        exact valOf_congr fun i hi => by show (bp i && inN i x) = (true && inN i x); rw [hbp i hi])
      clear hbp hl0 hc0
      go_wp2_with fail
      go_ret
      exact ⟨D, nD, rfl, HM.out, HFIN.out, HB.out⟩
    · intro x c w4 cnt4 hwx hwc hlx hat hrg4 hlt4 hg4 hs4 hen
      obtain ⟨k, hk, ek, hbk⟩ := HLF.out.1 _ hlx
      obtain rfl : x = bitI k := intL_inj ek
      have hc := hat (.lit (strL ⟨#[]⟩))
      have hc2 := elD_at ⟨k, hk⟩
      simp only at hc2
      have hcc : elT k = c := by
        have h3 := hc2.symm.trans hc
        injection h3 with h3
        exact strL_inj h3
      subst hcc
      have HLE := hid HR.out.left_eq
      have HLF4 := hid (LeftOf.next hk HLF.out)
      have hM4 := HM.out.kept hg4 (by simpa using hMr)
      have hb4 := HB.out.grown hg4 HB.out.size (fun j e => by injection e with e; subst e; exact hrB)
      have HF := hid (HFI.out k hk w4 hb4)
      have HM4 := hid hM4
      have HB4 := hid hb4
      have HR4 := hid hrg4
      have hln := elN_len ⟨k, hk⟩
      simp only at hln
      have HBK := hid hbk
      have HEN := hid hen
      clear hwx hwc hlx hat hc hc2 ek hM4 hb4 hrg4 hbk HM HR HLF hg4
      go_wp2_with fail
      refine HF.out.mono ?_
      rintro e w5 ⟨rfl, hw5⟩
      have hq5 : Blk w5 w4.heap.size 9 (elRow k) := by rw [hw5]; exact Blk.new _ _ _
      have hr5 : w5.ranges Tryz.prog 3 (plainElem Tryz.prog 9) (w.heap.size + 1) r 7 elD (fun z => left z && !z.sameKey (.int .i64 (bitI k))) cnt4 := by rw [hw5]; exact HR4.out.alloc _
      have hm5 : w5.ownsMap Tryz.prog 9 (plainElem Tryz.prog 3) w.heap.size nD D := by rw [hw5]; exact HM4.out.alloc _
      have hb5 : Below w.heap.size w w5 := by rw [hw5]; exact HB4.out.alloc HB4.out.size _
      have hlt5 := HM4.out.lt
      have HQ5 := hid hq5
      have HR5 := hid hr5
      have HM5 := hid hm5
      have HB5 := hid hb5
      clear hw5 hq5 hr5 hm5 hb5 HR4 HM4 HB4 hs4
      generalize w4.heap.size = q at *
      obtain ⟨ln, hlne⟩ : ∃ ln, ln = (elN k).length := ⟨_, rfl⟩
      have HLN := hid hlne
      rw [← hlne] at hln ⊢
      clear hlne
      go_wp2_with fail
      go_loopg [17] ln (fun kx s17 wr => ∃ (j nE : Nat) (E : DataW Unit), s17 = .int .i64 j ∧ j ≤ ln ∧ ln - j ≤ kx ∧ nE ≤ nD + j ∧ Hid (wr.ranges Tryz.prog 3 (plainElem Tryz.prog 9) (w.heap.size + 1) r 7 elD (fun z => left z && !z.sameKey (.int .i64 (bitI k))) cnt4) ∧ Hid (wr.ownsMap Tryz.prog 9 (plainElem Tryz.prog 3) w.heap.size nE E) ∧ Hid (ElIn E bp k j) ∧ Hid (Blk wr q 9 (elRow k)) ∧ Hid (Below w.heap.size w wr))
      case atStart => exact ⟨0, nD, D, rfl, Nat.zero_le _, Nat.le_refl _, Nat.le_refl _, HR5.out, HM5.out, fun x => by rw [HST.out x, bitsJ_zero], HQ5.out, HB5.out⟩
      case round =>
        obtain ⟨j, nE, E, rfl, hj, hg, hnE, HR6, HM6, HIN, HQ6, HB6⟩ := hrel
        by_cases hlt : j < ln
        · have hlt' : (j : Int) < (ln : Int) := by omega
          have hjl : j < (elN k).length := by rw [← HLN.out]; exact hlt
          have c0 := (HQ6.out.cell j).trans (elRow_at k j hjl)
          have hnm := elN_size k (elN k)[j] (List.getElem_mem hjl)
          have hin := HIN.out (elN k)[j]
          have hor := bitsJ_hit (bp := bp) hk hjl
          have HNX := hid (fun x (hx : x ≠ (elN k)[j]) => bitsJ_miss (bp := bp) hjl hx)
          have HKEY := hid (key_str (elN k)[j] (by unfold maxLen; omega))
          have hvb := valOf_bd (bitsJ bp k (j + 1) (elN k)[j])
          generalize (elN k)[j] = nm at *
          have HNEW := hid (show ElIn (E.put (strL nm) (.lit (.int .i64 (valOf (bitsJ bp k (j + 1) nm))))) bp k (j + 1) from fun x => by
            by_cases hx : x = nm
            · subst hx
              rw [atKey_put_same (HM6.out.isMap) (show WideAt.IsKeyLit (strL x) from trivial)]
            · rw [atKey_put_other (fun e => hx (strL_inj e)), HIN.out x, HNX.out x hx])
          generalize valOf (bitsJ bp k (j + 1) nm) = V1 at *
          generalize valOf (bitsJ bp k j nm) = V0 at *
          have hwf : (Lit.int .i64 V1).wf = true := by
            simp only [Lit.wf, IntKind.min, IntKind.max, IntKind.signed, IntKind.bits, Bool.and_eq_true]
            simp
            omega
          have hz0 : ∀ W : World, (zeroValue 3).run Tryz.prog W = .ok (.int .i64 0) W := fun W => Tryz.zeroValue3 W
          go_wp2_with (first
            | (at_lookup; (refine wpList_lookup_own_int _ rfl _ _ 122 rfl 9 3 .i64 (string_keyed Tryz.underlying9) Tryz.underlying122 Tryz.underlying3 (hz0 _) w.heap.size nE E rfl HM6.out _ (strL nm) rfl HKEY.out ?_); intro c hatc hwc; obtain rfl : c = V0 := (by have h3 := hatc.symm.trans hin; injection h3 with h3; injection h3))
            | (at_mapUpdate; (refine wpList_mapUpdate_own _ rfl _ _ _ 122 rfl 9 3 (string_keyed Tryz.underlying9) Tryz.underlying122 (plainElem Tryz.prog 3) w.heap.size nE E rfl HM6.out (by unfold maxLen; omega) _ _ (strL nm) rfl rfl HKEY.out _ [] (plainElem_int Tryz.underlying3 hwf) ?_); intro w7 hown7 hgrow7)
            | go_in)
          have HR7 := hid (HR6.out.kept hgrow7 (by simp) (by simpa using fun e => hMr e.symm))
          have HQ7 := hid (HQ6.out.grown hgrow7 (by simpa using fun e => by omega))
          have HB7 := hid (HB6.out.grown hgrow7 HB6.out.size (fun k e => by cases e; exact Nat.le_refl _))
          have HM7 := hid hown7
          go_roundg (ln - (j + 1))
          case measure => omega
          case rel => exact ⟨j + 1, nE + 1, _, by go_num, by omega, Nat.le_refl _, by omega, HR7.out, HM7.out, HNEW.out, HQ7.out, HB7.out⟩
        · have hlt' : ¬ (j : Int) < (ln : Int) := by omega
          have hjn : j = (elN k).length := by rw [← HLN.out]; omega
          have HEND := hid (show ElSt E (fun i => bp i || i == k) from fun x => by rw [HIN.out x, hjn, bitsJ_end])
          clear hlt hjn
          go_wp2_with fail
          go_roundw
          case rel => exact ⟨_, cnt4, nE, fun i => bp i || i == k, E, HR6.out, HLF4.out, HM6.out, by omega, HEND.out, HB6.out⟩
          case measure => rw [HR6.out.left_eq, HLE.out]; omega
theorem elOf_any (x : ByteArray) (hx : x.size ≤ maxLen) (w : World) (ht : TabSp w) : Calls Tryz.prog 56 #[.string x] w fun e w' => e = .returned (.int .i64 (elV x)) ∧ Below w.heap.size w w' := by
  have HN := hid (names_any w ht)
  have HKEY := hid (key_str x hx)
  have hz0 : ∀ W : World, (zeroValue 3).run Tryz.prog W = .ok (.int .i64 0) W := fun W => Tryz.zeroValue3 W
  clear ht
  go_enter Tryz.func56, Tryz.ntmps56
  go_wp2_with fail
  refine HN.out.mono ?_
  rintro e w2 ⟨D, n, rfl, hm2, hst, hb2⟩
  have HM2 := hid hm2
  have HB2 := hid hb2
  have hin := hst x
  obtain ⟨V, hV⟩ : ∃ V, V = valOf (fun i => true && inN i x) := ⟨_, rfl⟩
  rw [← hV] at hin
  have HVE := hid (show V = elV x from hV)
  clear hV
  clear hm2 hb2 hst
  go_wp2_with (first
    | (at_lookup; (refine wpList_lookup_own_int _ rfl _ _ 122 rfl 9 3 .i64 (string_keyed Tryz.underlying9) Tryz.underlying122 Tryz.underlying3 (hz0 _) w.heap.size n D rfl HM2.out _ (strL x) rfl HKEY.out ?_); intro c hatc hwc; obtain rfl : c = V := (by have h3 := hatc.symm.trans hin; injection h3 with h3; injection h3))
    | go_in)
  go_ret
  exact ⟨by rw [← HVE.out]; rfl, HB2.out⟩
end Go.Proofs.YtlfbgaknljdanaaGreatDoor
