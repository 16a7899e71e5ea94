/- The walk of the law TagCase. -/
import Derived.Test.YtpkbmgpbagdalaaTagArg
import Derived.Test.YtpkbmgpbagdalaaTagCs
import Derived.Test.YtpkbmgpbagdalaaTagAwake
import Derived.Test.YtpkbmgpbagdalaaTagCaseR
namespace Go.Proofs.Ytpkbmgpbagdalaa.tagCase
open Go.RowKit
open Go.Lib (hid)
set_option linter.unusedVariables false

/-- Only the first bytes with great letters. -/
def upPart (s : ByteArray) (k : Nat) : ByteArray := ofInts ((List.range s.size).map fun i => if i < k then upI (byt s i) else byt s i)
theorem upI_rng (s : ByteArray) (i : Nat) : 0 ≤ upI (byt s i) ∧ upI (byt s i) ≤ 255 := by
  have := byt_nonneg s i
  unfold upI
  split <;> omega
theorem upPart_size (s : ByteArray) (k : Nat) : (upPart s k).size = s.size := by
  unfold upPart
  rw [ofInts_size]
  simp
theorem upPart_byt (s : ByteArray) (k i : Nat) (h : i < s.size) : byt (upPart s k) i = if i < k then upI (byt s i) else byt s i := by
  unfold upPart
  rw [ofInts_byt _ _ i (by simpa using h)]
  · simp [h]
  · intro y hy
    obtain ⟨j, _, rfl⟩ := List.mem_map.1 hy
    split
    · exact upI_rng s j
    · exact byt_nonneg s j
theorem upPart_zero (s : ByteArray) : upPart s 0 = s := by
  apply ext_byt
  · exact upPart_size s 0
  · intro i hi
    rw [upPart_size] at hi
    rw [upPart_byt s 0 i hi, if_neg (by omega)]
theorem upPart_cas (s : ByteArray) : Cas s (upPart s s.size) := ⟨upPart_size s _, fun i hi => by rw [upPart_byt s _ i hi, if_pos hi]⟩
theorem keys_len {l l' : List (ByteArray × ByteArray)} (h : l'.map key = l.map key) : l'.length = l.length := by
  have := congrArg List.length h
  simpa using this
theorem keys_get {l l' : List (ByteArray × ByteArray)} (h : l'.map key = l.map key) {i : Nat} {a a' : ByteArray × ByteArray} (ha : l[i]? = some a) (ha' : l'[i]? = some a') : a'.1 = a.1 ∧ lowerB a'.2 = lowerB a.2 := by
  have := congrArg (fun x => x[i]?) h
  simp only [List.getElem?_map, ha, ha', Option.map_some, Option.some.injEq] at this
  unfold key at this
  exact ⟨(Prod.mk.inj this).1, (Prod.mk.inj this).2⟩
theorem bytes_up {w : World} {b k : Nat} {s : ByteArray} (hk : k < s.size) (h : Lib.Bytes w b 0 (upPart s k)) (hl : ¬ (97 ≤ byt s k ∧ byt s k ≤ 122)) : Lib.Bytes w b 0 (upPart s (k + 1)) := by
  have e : upPart s (k + 1) = upPart s k := by
    apply ext_byt
    · rw [upPart_size, upPart_size]
    · intro i hi
      rw [upPart_size] at hi
      rw [upPart_byt s _ i hi, upPart_byt s _ i hi]
      by_cases h1 : i < k
      · rw [if_pos h1, if_pos (by omega)]
      · by_cases h2 : i = k
        · subst h2
          rw [if_neg h1, if_pos (by omega)]
          unfold upI
          rw [if_neg hl]
        · rw [if_neg h1, if_neg (by omega)]
  rw [e]
  exact h
theorem bytes_up_set {w : World} {b k : Nat} {s : ByteArray} (hk : k < s.size) (h : Lib.Bytes w b 0 (upPart s k)) (hl : 97 ≤ byt s k ∧ byt s k ≤ 122) : Lib.Bytes (w.setCell ⟨b, k, none⟩ (.int .u8 (byt s k - 32))) b 0 (upPart s (k + 1)) := by
  apply bytes_of_byt
  intro i hi
  rw [upPart_size] at hi
  have hc := bytes_cell h (i := i) (by rw [upPart_size]; exact hi)
  rw [upPart_byt s (k + 1) i hi, Nat.zero_add]
  rw [Nat.zero_add] at hc
  by_cases h2 : i = k
  · subst h2
    rw [World.cell?_setCell_same _ _ _ hc, if_pos (by omega)]
    unfold upI
    rw [if_pos hl]
  · rw [World.cell?_setCell_other _ _ _ _ (fun e => h2 (by injection e with _ e2 _; exact e2.symm)), hc, upPart_byt s k i hi]
    by_cases h1 : i < k
    · rw [if_pos h1, if_pos (by omega)]
    · rw [if_neg h1, if_neg (by omega)]

set_option maxRecDepth 100000 in
set_option maxHeartbeats 8000000 in
theorem walk (a : Option Addr) (aLen aCap : Nat) (aD : List Int) (w : World) (w0 : IsRow .u8 w a aLen aCap aD) (hsh : w.ShapedOpen Try.prog) :
    Calls Try.prog 5 #[.slice a aLen aCap] w fun e w' => e = .returned (.bool true) ∧ Below w.heap.size w w' := by
  obtain ⟨m, hml⟩ := Try.laysM185.s1_3 w hsh
  have hml : w.cell? ⟨0, 0, none⟩ = some (.int .i64 m) := hml
  obtain ⟨s, hs⟩ := ba_of w0
  have haw := fun (W : World) (hb : Below w.heap.size w W) => awake_any m W ((hb.cell (p := ⟨0, 0, none⟩) (World.block_lt_of_cell? _ _ hml)).trans hml)
  have h0l : 0 < w.heap.size := World.block_lt_of_cell? _ _ hml
  have HML := hid hml
  have HAW := hid haw
  rename_i hmq
  clear w0 hsh hml haw hmq
  by_cases hbig : 200 < aLen
  · have hbig' : (200 : Int) < (aLen : Int) := by omega
    clear hs
    go_enter Try.func5, Try.ntmps5
    go_wp2_with fail
    refine (HAW.out w (Below.refl _ _)).mono ?_
    rintro e w3 ⟨rfl, hb3⟩
    go_wp2_with fail
    go_ret
    exact ⟨rfl, hb3⟩
  have hbig' : ¬ (200 : Int) < (aLen : Int) := by omega
  have HS := hid hs
  clear hs
  go_enter Try.func5, Try.ntmps5
  go_wp2_with fail
  refine (HAW.out w (Below.refl _ _)).mono ?_
  rintro e w3 ⟨rfl, hb3⟩
  have HB3 := hid hb3
  have HS3 := hid (HS.out.below hb3 (Nat.le_refl _)).reads
  have HO1 := hid (u8s_one s)
  obtain ⟨i0, hi, hz0, hz1, hz2⟩ := info_parts info_u8
  clear hb3 HAW
  go_wp2_with (at_builtin; go_must (refine wpList_append_any _ rfl (.tmp 18) (.tmp 19) 22 rfl w3.heap.size 5 i0 (.int .u8 0) 1 1 Try.underlying22 hi hz0 hz1 hz2 rfl (by decide) _ 0 [] rfl (owns_empty w3 _ 1) w3.heap.size a aLen aCap _ rfl (HS3.out.alloc (Nat.le_refl _) _) HO1.out (by unfold maxLen; omega) (by omega) (by simp) ?_); intro v6 w6 ho6 hg6 hl6)
  have ho6' : w6.ownsRow w3.heap.size 5 1 v6 aLen (u8s s) := by simpa using ho6
  have hb6 : Below w3.heap.size w3 w6 := ((Below.refl _ w3).alloc (Nat.le_refl _) _).grown hg6 (by simp) (own_ge (owns_empty w3 5 1))
  have hba : ∃ A c, v6 = .slice A aLen c ∧ aLen ≤ c ∧ c ≤ 9223372036854775807 ∧ ∃ g, w3.heap.size ≤ g ∧ (0 < aLen → A = some ⟨g, 0, none⟩ ∧ g < w6.heap.size) ∧ Lib.Bytes w6 g 0 s ∧ (0 < aLen → ∀ i, w6.frozen? ⟨g, i, none⟩ = false) := by
    have hsz : s.size = aLen := HS.out.1.symm
    rcases ho6'.2 with ⟨rfl, h0⟩ | ⟨g, cap, cur, rfl, hg, hh, hc, hm, _, _⟩
    · exact ⟨none, 0, by rw [h0], by omega, by omega, w3.heap.size, Nat.le_refl _, fun h => by omega, fun i hi => by omega, fun h => by omega⟩
    · refine ⟨_, cap, rfl, hc, by unfold maxLen at hm; omega, g, hg, fun _ => ⟨rfl, (Array.getElem?_eq_some_iff.1 hh).1⟩, ?_, fun _ i => ?_⟩
      · have hx : BA w6 (some ⟨g, 0, none⟩) aLen cap s := BA.of_own ho6'
        rcases Nat.eq_zero_or_pos aLen with h0 | h0
        · intro i hi; omega
        · obtain ⟨b, off, e, _, hz⟩ := hx.2.2.2 h0
          cases e
          exact hz
      · simp [World.frozen?, hh]
  obtain ⟨A6, c6, rfl, hc6, hc63, g, hgl, hgA, hz6, hf6⟩ := hba
  have HB6 := hid (HB3.out.trans (hb6.mono (HB3.out.size)))
  have HZ6 := hid hz6
  have HF6 := hid hf6
  have HGA := hid hgA
  have z3 := HB3.out.size
  have HN := hid HS.out.1
  clear ho6 hg6 hl6 ho6' hb6 hz6 hf6 hgA hi hz0 hz1 hz2 HO1 HS3
  go_loopg [4] aLen (fun kx s4 wr => ∃ (k : Nat), s4 = .int .i64 k ∧ k ≤ aLen ∧ aLen - k ≤ kx ∧ Hid (Below w.heap.size w wr) ∧ Hid (Lib.Bytes wr g 0 (upPart s k)) ∧ Hid (0 < aLen → ∀ i, wr.frozen? ⟨g, i, none⟩ = false) ∧ Hid (w6.heap.size ≤ wr.heap.size))
  case atStart => exact ⟨0, rfl, Nat.zero_le _, by omega, HB6.out, by rw [upPart_zero]; exact HZ6.out, HF6.out, Nat.le_refl _⟩
  case round =>
    obtain ⟨k, rfl, hk, hg, HB, HZ, HF, HL⟩ := hrel
    by_cases hlt : k < aLen
    · have hlt' : (k : Int) < (aLen : Int) := by omega
      have hks : k < s.size := by have := HN.out; omega
      obtain ⟨rfl, hgl6⟩ := HGA.out (by omega)
      have hcell := bytes_cell HZ.out (i := k) (by rw [upPart_size]; exact hks)
      rw [upPart_byt s k k hks, if_neg (by omega), Nat.zero_add] at hcell
      have hfr := HF.out (by omega) k
      have hr := byt_nonneg s k
      generalize hcb : byt s k = c at hcell hr
      have HCB := hid hcb
      have hk1 : (k : Int) + 1 ≤ 9223372036854775807 := by omega
      clear hcb
      by_cases h97 : (97 : Int) ≤ c
      · by_cases h122 : c ≤ (122 : Int)
        · have w1 : IntKind.u8.wrap (c - 32) = c - 32 := wraps_u8 _ (by omega) (by omega)
          go_wp2_with fail
          go_roundg (aLen - (k + 1))
          case measure => omega
          case rel =>
            refine ⟨k + 1, rfl, by omega, Nat.le_refl _, Below.setCell (p := ⟨g, k, none⟩) HB.out (by show _ ≤ g; omega) _, ?_, ?_, ?_⟩
            · show Lib.Bytes _ _ _ _
              have := bytes_up_set hks HZ.out (by rw [HCB.out]; omega)
              rwa [HCB.out] at this
            · intro h i
              rw [World.frozen?_setCell]
              exact HF.out h i
            · show _ ≤ _
              rw [size_set]
              exact HL.out
        · go_wp2_with fail
          go_roundg (aLen - (k + 1))
          case measure => omega
          case rel => exact ⟨k + 1, rfl, by omega, Nat.le_refl _, HB, bytes_up hks HZ.out (by rw [HCB.out]; omega), HF, HL⟩
      · go_wp2_with fail
        go_roundg (aLen - (k + 1))
        case measure => omega
        case rel => exact ⟨k + 1, rfl, by omega, Nat.le_refl _, HB, bytes_up hks HZ.out (by rw [HCB.out]; omega), HF, HL⟩
    · have hlt' : ¬ (k : Int) < (aLen : Int) := by omega
      obtain rfl : k = aLen := by omega
      have hup : upPart s k = upPart s s.size := by rw [HN.out]
      rw [hup] at HZ
      have hcas := upPart_cas s
      have hcsz := upPart_size s s.size
      generalize upPart s s.size = c at *
      clear hup
      have hsw := HS.out.below HB.out (Nat.le_refl _)
      have hmw : wr.cell? ⟨0, 0, none⟩ = some (.int .i64 m) := (HB.out.cell (p := ⟨0, 0, none⟩) h0l).trans HML.out
      have hrd := read_any wr a k aCap 0 m s hsw.1 hsw.2.2.2 hsw.2.1 hsw.2.2.1 (by omega) (by decide) hmw
      have HRD := hid hrd
      clear hsw hmw hrd
      go_wp2_with fail
      refine HRD.out.mono ?_
      rintro e w7 ⟨v7, rfl, hb7, ho7⟩
      have hC := case_read hcas
      have hsm := read_small s 0
      generalize readV s 0 = t1 at hC ho7 hsm ⊢
      obtain ⟨⟨kd1, sz1, nm1, at1, sg1, cl1⟩, ok1⟩ := t1
      obtain ⟨A1, c1, rfl, hA1⟩ := owns_form ho7
      simp only [Mk.val]
      have hrow7 := AtRow.of_own ho7
      have z7 := hb7.size
      have zr := HL.out
      have HB7 := hid (HB.out.trans (hb7.mono HB.out.size))
      have hz7 : Lib.Bytes w7 g 0 c := by
        rcases Nat.eq_zero_or_pos k with h0 | h0
        · intro i hi; have := HN.out; omega
        · exact Bytes.keepAt HZ.out fun j => World.cell?_of_block (hb7.block g (by have := (HGA.out h0).2; omega))
      have HZ7 := hid hz7
      have HC := hid hC
      have HSM := hid hsm
      clear hsm
      have HROW7 := hid hrow7
      clear hC hA1 hrow7 ho7 hb7 hz7 HRD
      go_upto_region 10 with fail
      have hr8 := Blk.new w7 26 #[.int .i64 kd1, .int .i64 sz1, .string nm1, .slice A1 at1.length c1, .bool sg1, .bool cl1]
      have hbb8 : Below w7.heap.size w7 (w7.alloc (.cells #[.int .i64 kd1, .int .i64 sz1, .string nm1, .slice A1 at1.length c1, .bool sg1, .bool cl1] 26)) := (Below.refl _ _).alloc (Nat.le_refl _) _
      have z8 : (w7.alloc (.cells #[.int .i64 kd1, .int .i64 sz1, .string nm1, .slice A1 at1.length c1, .bool sg1, .bool cl1] 26)).heap.size = w7.heap.size + 1 := by simp
      generalize (w7.alloc (.cells #[.int .i64 kd1, .int .i64 sz1, .string nm1, .slice A1 at1.length c1, .bool sg1, .bool cl1] 26)) = w8 at *
      have hB8 : Below w.heap.size w w8 := HB7.out.trans (hbb8.mono HB7.out.size)
      have hmw : w8.cell? ⟨0, 0, none⟩ = some (.int .i64 m) := (hB8.cell (p := ⟨0, 0, none⟩) h0l).trans HML.out
      have hrd := read_any w8 A6 k c6 0 m c (by rw [hcsz]; exact HN.out) (fun h0 => ⟨g, 0, (HGA.out h0).1, by have := (HGA.out h0).2; omega, Bytes.keepAt HZ7.out fun j => World.cell?_of_block (hbb8.block g (by have := (HGA.out h0).2; omega))⟩) hc6 hc63 (by omega) (by decide) hmw
      have HRD := hid hrd
      have HR8 := hid hr8
      have HB8 := hid hB8
      have HROW8 := hid (HROW7.out.below hbb8)
      have Z8 := hid z8
      clear hmw hrd hr8 hbb8 hB8 z8 HROW7
      go_wp2_with fail
      refine HRD.out.mono ?_
      rintro e w9 ⟨v9, rfl, hb9, ho9⟩
      have hC := HC.out
      have hsm2 := read_small c 0
      generalize readV c 0 = t2 at hC ho9 hsm2 ⊢
      obtain ⟨⟨kd2, sz2, nm2, at2, sg2, cl2⟩, ok2⟩ := t2
      obtain ⟨rfl, e1, e2, e3, e4, e5, e6⟩ := hC
      simp only at e1 e2 e3 e4 e5 e6 ho9
      subst e1 e2 e3 e5 e6
      obtain ⟨A2, c2, rfl, hA2⟩ := owns_form ho9
      simp only [Mk.val]
      have hlen := keys_len e4
      have hrow9 := AtRow.of_own ho9
      have hr9 := HR8.out.below hb9 HR8.out.lt
      have hROW9 := HROW8.out.below hb9
      have z9 := hb9.size
      have hB9 := HB8.out.trans (hb9.mono HB8.out.size)
      have HB9 := hid hB9
      have HR9 := hid hr9
      have HRA := hid hROW9
      have HRB := hid hrow9
      have HKEY := hid e4
      have HSM2 := hid hsm2
      have hLs : at1.length ≤ 200 := by have h : at1.length ≤ s.size := HSM.out.2; have := HN.out; omega
      clear hsm2
      have hl5 := hr9.lt
      rw [hlen]
      generalize hLL : at1.length = L at *
      have HLL := hid hLL
      clear hLL
      clear HC HRD hA2 hrow9 hr9 hROW9 hB9 ho9 hb9 e4 HR8 HROW8
      have hr9 := HR9.out
      have k0 := hr9.cell 0
      have k1 := hr9.cell 1
      have k2 := hr9.cell 2
      have k3 := hr9.cell 3
      have k4 := hr9.cell 4
      have k5 := hr9.cell 5
      simp only [List.getElem?_toArray, List.getElem?_cons_zero, List.getElem?_cons_succ] at k0 k1 k2 k3 k4 k5
      clear hr9
      go_wp2_with fail
      have hb10 := HB9.out.alloc HB9.out.size (.cells #[.int .i64 kd2, .int .i64 sz2, .string nm2, .slice A2 L c2, .bool sg2, .bool cl2] 26)
      have hq10 := Blk.new w9 26 #[.int .i64 kd2, .int .i64 sz2, .string nm2, .slice A2 L c2, .bool sg2, .bool cl2]
      have hr10 := HR9.out.alloc (.cells #[.int .i64 kd2, .int .i64 sz2, .string nm2, .slice A2 L c2, .bool sg2, .bool cl2] 26)
      have hbb10 := (Below.refl w9.heap.size w9).alloc (Nat.le_refl _) (.cells #[.int .i64 kd2, .int .i64 sz2, .string nm2, .slice A2 L c2, .bool sg2, .bool cl2] 26)
      have z10 : (w9.alloc (.cells #[.int .i64 kd2, .int .i64 sz2, .string nm2, .slice A2 L c2, .bool sg2, .bool cl2] 26)).heap.size = w9.heap.size + 1 := by simp
      generalize (w9.alloc (.cells #[.int .i64 kd2, .int .i64 sz2, .string nm2, .slice A2 L c2, .bool sg2, .bool cl2] 26)) = w10 at *
      have HRA10 := hid (HRA.out.below hbb10)
      have HRB10 := hid (HRB.out.below hbb10)
      have HB10 := hid hb10
      have HR10 := hid hr10
      have HQ10 := hid hq10
      have Z10 := hid z10
      clear k0 k1 k2 k3 k4 k5 hb10 hq10 hr10 hbb10 z10 HRA HRB
      go_loopw [9] (fun s9 wq => ∃ (i : Nat), s9 = .int .i64 i ∧ i ≤ L ∧ Hid (Below w.heap.size w wq) ∧ Hid (Below w10.heap.size w10 wq)) (fun s9 _ => L - (intOf s9).toNat)
      case atStart => exact ⟨0, rfl, Nat.zero_le _, HB10.out, Below.refl _ _⟩
      case round =>
        obtain ⟨i, rfl, hi, HBq, HB10q⟩ := hrel
        have d3 := (HR10.out.below HB10q.out HR10.out.lt).cell 3
        have f3 := (HQ10.out.below HB10q.out HQ10.out.lt).cell 3
        simp only [List.getElem?_toArray, List.getElem?_cons_zero, List.getElem?_cons_succ] at d3 f3
        have hl1 := HR10.out.lt
        have hl2 := HQ10.out.lt
        by_cases hlt : i < L
        · have hlt' : (i : Int) < (L : Int) := by omega
          have hL1 : at1.length = L := HLL.out
          have hL2 : at2.length = L := by have := keys_len HKEY.out; omega
          obtain ⟨A, c0, e1, _, hx1⟩ := HRA10.out
          obtain ⟨A', c0', e2, _, hx2⟩ := HRB10.out
          injection e1 with e1 e1b e1c
          injection e2 with e2 e2b e2c
          subst e1 e2 e1c e2c
          clear e1b e2b
          obtain ⟨b1, o1, rfl, hbl1, hcl1⟩ := hx1 (by omega)
          obtain ⟨b2, o2, rfl, hbl2, hcl2⟩ := hx2 (by omega)
          have ha1 : at1[i]? = some at1[i] := List.getElem?_eq_getElem (by omega)
          have ha2 : at2[i]? = some at2[i] := List.getElem?_eq_getElem (by omega)
          obtain ⟨n1, y1⟩ := hcl1 i _ ha1
          obtain ⟨n2, y2⟩ := hcl2 i _ ha2
          obtain ⟨hk1, hk2⟩ := keys_get HKEY.out ha1 ha2
          rw [hk1] at n2
          have n1' := (HB10q.out.cell (p := ⟨b1, _, none⟩) hbl1).trans n1
          have y1' := (HB10q.out.cell (p := ⟨b1, _, none⟩) hbl1).trans y1
          have n2' := (HB10q.out.cell (p := ⟨b2, _, none⟩) hbl2).trans n2
          have y2' := (HB10q.out.cell (p := ⟨b2, _, none⟩) hbl2).trans y2
          have hv1 : at1[i].2.size ≤ 9223372036854775807 := by have := (HSM.out.1 _ (List.mem_of_getElem? ha1)).2; have := HN.out; omega
          have hv2 : at2[i].2.size ≤ 9223372036854775807 := by have := (HSM2.out.1 _ (List.mem_of_getElem? ha2)).2; have := HN.out; omega
          have q3 := HR10.out.cell 3
          have g3 := HQ10.out.cell 3
          simp only [List.getElem?_toArray, List.getElem?_cons_zero, List.getElem?_cons_succ] at q3 g3
          generalize at1[i].1 = nmx at *
          generalize at1[i].2 = v1 at *
          generalize at2[i].2 = v2 at *
          have HK2 := hid hk2
          have lw1 := fun W => lower_any v1 hv1 W
          have lw2 : ∀ W, Calls Try.prog 12 #[.string v2] W fun e w' => e = .returned (.string (lowerB v1)) ∧ Below W.heap.size W w' := fun W => by rw [← hk2]; exact lower_any v2 hv2 W
          have LW1 := hid lw1
          have LW2 := hid lw2
          clear lw1 lw2 hk1 hk2 hcl1 hcl2 ha1 ha2 hx1 hx2 hL1 hL2 hv1 hv2
          go_upto_region 16 with fail
          change (Code.region 16 caseOps.toArray true).wp Try.prog _ _ _
          refine wp_region_inv (caseInv (Value.slice a k aCap) (undef) (u2) (Value.slice A6 k c6) (Value.int IntKind.i64 ↑k) (Value.bool ok2) (Value.bool ok2) (Value.slice a k aCap) (Value.int IntKind.i64 ↑k) (Value.bool false) (Value.bool false) (Value.bool true) (Value.bool false) (Value.bool false) (undef) (Value.slice (some { block := w3.heap.size, off := 0 }) 0 0) (Value.slice a k aCap) (Value.slice A6 k c6) (Value.int IntKind.i64 ↑k) (Value.slice A6 k c6) (Value.int IntKind.i64 ↑k) (Value.bool false) (u25) (u26) (u27) (u28) (u29) (u30) (u31) (u32) (u33) (u34) (u35) (u36) (u37) (u38) (u39) (u40) (u41) (u42) (u43) (u44) (u45) (u46) (Value.tuple #[Value.agg #[Value.int IntKind.i64 kd2, Value.int IntKind.i64 ↑sz2, Value.string nm2, Value.slice (some { block := b1, off := o1 }) L c1, Value.bool sg2, Value.bool cl2], Value.bool ok2]) (Value.slice a k aCap) (Value.tuple #[Value.agg #[Value.int IntKind.i64 kd2, Value.int IntKind.i64 ↑sz2, Value.string nm2, Value.slice (some { block := b1, off := o1 }) L c1, Value.bool sg2, Value.bool cl2], Value.bool ok2]) (Value.agg #[Value.int IntKind.i64 kd2, Value.int IntKind.i64 ↑sz2, Value.string nm2, Value.slice (some { block := b1, off := o1 }) L c1, Value.bool sg2, Value.bool cl2]) (Value.bool ok2) (Value.tuple #[Value.agg #[Value.int IntKind.i64 kd2, Value.int IntKind.i64 ↑sz2, Value.string nm2, Value.slice (some { block := b2, off := o2 }) L c2, Value.bool sg2, Value.bool cl2], Value.bool ok2]) (Value.slice A6 k c6) (Value.tuple #[Value.agg #[Value.int IntKind.i64 kd2, Value.int IntKind.i64 ↑sz2, Value.string nm2, Value.slice (some { block := b2, off := o2 }) L c2, Value.bool sg2, Value.bool cl2], Value.bool ok2]) (Value.agg #[Value.int IntKind.i64 kd2, Value.int IntKind.i64 ↑sz2, Value.string nm2, Value.slice (some { block := b2, off := o2 }) L c2, Value.bool sg2, Value.bool cl2]) (Value.bool ok2) (Value.bool ok2) (Value.bool ok2) (Value.bool false) (Value.bool false) (Value.pointer (some { block := w7.heap.size, off := 0 })) (Value.int IntKind.i64 kd2) (Value.pointer (some { block := w9.heap.size, off := 0 })) (Value.int IntKind.i64 kd2) (Value.bool false) (Value.bool false) (Value.bool false) (Value.pointer (some { block := w7.heap.size, off := 1 })) (Value.int IntKind.i64 ↑sz2) (Value.pointer (some { block := w9.heap.size, off := 1 })) (Value.int IntKind.i64 ↑sz2) (Value.bool false) (Value.bool false) (Value.bool false) (Value.pointer (some { block := w7.heap.size, off := 2 })) (Value.string nm2) (Value.pointer (some { block := w9.heap.size, off := 2 })) (Value.string nm2) (Value.bool false) (Value.bool false) (Value.bool false) (Value.pointer (some { block := w7.heap.size, off := 3 })) (Value.slice (some { block := b1, off := o1 }) L c1) (Value.int IntKind.i64 ↑L) (Value.pointer (some { block := w9.heap.size, off := 3 })) (Value.slice (some { block := b2, off := o2 }) L c2) (Value.int IntKind.i64 ↑L) (Value.bool false) (Value.bool false) (Value.bool false) (Value.pointer (some { block := w7.heap.size, off := 4 })) (Value.bool sg2) (Value.pointer (some { block := w9.heap.size, off := 4 })) (Value.bool sg2) (Value.bool false) (Value.bool false) (Value.bool false) (Value.pointer (some { block := w7.heap.size, off := 5 })) (Value.bool cl2) (Value.pointer (some { block := w9.heap.size, off := 5 })) (Value.bool cl2) (Value.bool false) (Value.bool false) (Value.int IntKind.i64 ↑i) (Value.pointer (some { block := w7.heap.size, off := 3 })) (Value.slice (some { block := b1, off := o1 }) L c1) (Value.int IntKind.i64 ↑L) (Value.bool true) (u109) (u110) i b1 o1 b2 o2 L c1 c2 w7.heap.size w9.heap.size nmx v1 v2 w w10) rfl (by kernel_rfl) ?h0 (case_step _ _ _ _ _ _ _ _ _ _ _ _ _ _ _ _ _ _ _ _ _ _ _ _ _ _ _ _ _ _ _ _ _ _ _ _ _ _ _ _ _ _ _ _ _ _ _ _ _ _ _ _ _ _ _ _ _ _ _ _ _ _ _ _ _ _ _ _ _ _ _ _ _ _ _ _ _ _ _ _ _ _ _ _ _ _ _ _ _ _ _ _ _ _ _ _ _ _ _ _ _ _ _ _ _ _ _ _ i b1 o1 b2 o2 L c1 c2 _ _ nmx v1 v2 w w10 _ hlt LW1 LW2 q3 g3 n1 n2 y1 y2 hl1 hl2 hbl1 hbl2) ?hend
          case h0 =>
            exact ⟨⟨false, false, false, false, false, false, false, false, false, false, false, false, false, false, false, false, false, false, false, false, false, false, false, false, false, false, false, false, false, false, _, _, _, _, _, _, _, _, _, _, _, _, _, _, _, _, _, _, _, _, _, _, _, _, _, _, _, _, _, _, (fun h => by cases h), (fun h => by cases h), (fun h => by cases h), (fun h => by cases h), (fun h => by cases h), (fun h => by cases h), (fun h => by cases h), (fun h => by cases h), (fun h => by cases h), (fun h => by cases h), (fun h => by cases h), (fun h => by cases h), (fun h => by cases h), (fun h => by cases h), (fun h => by cases h), (fun h => by cases h), (fun h => by cases h), (fun h => by cases h), (fun h => by cases h), (fun h => by cases h), (fun h => by cases h), (fun h => by cases h), (fun h => by cases h), (fun h => by cases h), (fun h => by cases h), (fun h => by cases h), (fun h => by cases h), (fun h => by cases h), (fun h => by cases h), (fun h => by cases h), (HBq.out.trans (below_drewN _ _ 1)), (HB10q.out.trans (below_drewN _ _ 1))⟩, rfl, rfl⟩
          case hend =>
            rintro L a wz ⟨st, rfl, rfl⟩ hall
            cases st with
            | mk l0 l1 l2 l3 l4 l5 l6 l7 l8 l9 l10 l11 l12 l13 l14 l15 l16 l17 l18 l19 l20 l21 l22 l23 l24 l25 l26 l27 l28 l29 x111 x112 x113 x114 x115 x116 x117 x118 x119 x120 x121 x122 x123 x124 x125 x126 x127 x128 x129 x130 x131 x132 x133 x134 x135 x136 x137 x138 x139 x140 H0 H1 H2 H3 H4 H5 H6 H7 H8 H9 H10 H11 H12 H13 H14 H15 H16 H17 H18 H19 H20 H21 H22 H23 H24 H25 H26 H27 H28 H29 HBB HB2 =>
            dsimp only at hall ⊢
            obtain rfl : _ = x140 := (H29.out (hall 29 (by decide))).symm
            clear hall H0 H1 H2 H3 H4 H5 H6 H7 H8 H9 H10 H11 H12 H13 H14 H15 H16 H17 H18 H19 H20 H21 H22 H23 H24 H25 H26 H27 H28 H29
            go_wp2_with fail
            go_roundw
            case rel => exact ⟨i + 1, by go_num, by omega, HBB, HB2⟩
            case measure => simp [intOf]; omega
        · have hlt' : ¬ (i : Int) < (L : Int) := by omega
          go_wp2_with fail
          go_ret
          exact ⟨rfl, HBq.out⟩
end Go.Proofs.Ytpkbmgpbagdalaa.tagCase
