/- The walk of the law AnsiWrites. -/
import Derived.Test.YtlopigkaibkblaaDoorAnAwake
import Derived.Test.YtlopigkaibkblaaDoorAnW2
import Derived.Test.YtlopigkaibkblaaDoorAnW3
import Derived.Test.YtlopigkaibkblaaDoorAppC
import Derived.Deep.DeepCutAuto
namespace Go.Proofs.YtlopigkaibkblaaDoor.ansiWrites
open Go.RowKit
open Go.Lib (hid)
set_option linter.unusedVariables false

theorem na_of {w : World} {a : Option Addr} {len cap : Nat} {zs : List Int} (h : IsRow .i64 w a len cap zs) : ∃ l : List Int, NA w a len l := by
  rcases h with ⟨rfl, rfl, rfl, rfl⟩ | ⟨x, rfl, hl, hm, hz, hcell, hwz⟩
  · exact ⟨[], rfl, fun h => absurd h (by decide)⟩
  · have hlen : (zs.take len).length = len := by rw [List.length_take]; omega
    refine ⟨zs.take len, hlen.symm, fun h0 => ?_⟩
    obtain ⟨b, off, spot⟩ := x
    have hc := hcell 0 (by omega)
    have hspot : spot = none := by simpa [Addr.add] using World.cell?_spot hc
    subst hspot
    refine ⟨b, off, rfl, World.block_lt_of_cell? _ _ hc, ?_⟩
    intro i hi
    have h1 := hcell i (by omega)
    rw [show (Addr.add ⟨b, off, none⟩ i) = ⟨b, off + i, none⟩ by unfold Addr.add; split <;> simp_all] at h1
    rw [h1]
    congr 2
    simp [List.getD_eq_getElem?_getD, hi]
def okN (x : Int) : Bool := decide (0 ≤ x ∧ x ≤ 99999)
/-- The text that is wanted, so far. -/
def wantN (l : List Int) : ByteArray := headB ++ joinI l
theorem wantN_snoc (l : List Int) (x : Int) : wantN (l ++ [x]) = (if l = [] then wantN l else wantN l ++ semiB) ++ itoaB x := by
  unfold wantN
  rw [joinI_snoc]
  by_cases h : l = []
  · subst h
    rw [if_pos rfl, if_pos rfl]
    show headB ++ itoaB x = headB ++ ⟨#[]⟩ ++ itoaB x
    rw [append_empty]
  · rw [if_neg h, if_neg h]
    simp only [append_assoc3]
theorem all_snoc (l : List Int) (x : Int) : (l ++ [x]).all okN = (l.all okN && okN x) := by simp
theorem right_iff (last : Int) (l : List Int) : RightW last l ↔ (decide (64 ≤ last ∧ last ≤ 126) && l.all okN) = true := by
  unfold RightW
  rw [Bool.and_eq_true, decide_eq_true_iff, List.all_eq_true]
  unfold okN
  simp only [decide_eq_true_iff]

set_option maxRecDepth 100000 in
set_option maxHeartbeats 8000000 in
theorem walk (last : Int) (nums : Option Addr) (numsLen numsCap : Nat) (numsD : List Int) (a : Option Addr) (aLen aCap : Nat) (aD : List Int) (w : World) (w0 : (Lit.int .u8 last).wf = true) (w1 : IsRow .i64 w nums numsLen numsCap numsD) (w2 : IsRow .u8 w a aLen aCap aD) (hsh : w.ShapedOpen Tryd.prog)
    (pe : Value) (hev : w.cell? ⟨Tryd.laysC172_ren.g 15, 0, none⟩ = some (.iface 120 pe)) (htab : Tab w) :
    Calls Tryd.prog 6 #[.int .u8 last, .slice nums numsLen numsCap, .slice a aLen aCap] w fun e w' => e = .returned (.bool true) ∧ Below w.heap.size w w' := by
  obtain ⟨m, hml⟩ := Tryd.laysM146.s1_3 w hsh
  have hml : w.cell? ⟨0, 0, none⟩ = some (.int .i64 m) := hml
  have h0l := World.block_lt_of_cell? _ _ hml
  have hgl := World.block_lt_of_cell? _ _ hev
  obtain ⟨s, hs⟩ := ba_of w2
  obtain ⟨l, hna⟩ := na_of w1
  have hl0 : 0 ≤ last ∧ last ≤ 255 := by
    simp only [Lit.wf, IntKind.min, IntKind.max, IntKind.signed, IntKind.bits, Bool.and_eq_true] at w0
    simp at w0
    omega
  have haw := awake_any m _ pe w hml hev
  have HAW := hid haw
  have HML := hid hml
  have HEV := hid hev
  have HTAB := hid htab
  have HL0 := hid hl0
  have HNA := hid hna
  clear w0 w1 w2 hsh hml hev haw htab hl0 hna
  by_cases hbig : 20 < numsLen ∨ 60 < aLen
  · have hcases : (20 : Int) < (numsLen : Int) ∨ ¬ (20 : Int) < (numsLen : Int) ∧ (60 : Int) < (aLen : Int) := by omega
    clear hbig hs
    rcases hcases with h1 | ⟨h1, h2⟩
    all_goals
      go_enter Tryd.func6, Tryd.ntmps6
      go_wp2_with fail
      refine HAW.out.mono ?_
      rintro e w3 ⟨rfl, hb3⟩
      go_wp2_with fail
      go_ret
      exact ⟨rfl, hb3⟩
  have hbig1 : ¬ (20 : Int) < (numsLen : Int) := by omega
  have hbig2 : ¬ (60 : Int) < (aLen : Int) := by omega
  have hn20 : numsLen ≤ 20 := by omega
  have ha60 : aLen ≤ 60 := by omega
  have HS := hid hs
  clear hs hbig
  go_enter Tryd.func6, Tryd.ntmps6
  go_wp2_with fail
  refine HAW.out.mono ?_
  rintro e w3 ⟨rfl, hb3⟩
  have HB3 := hid hb3
  clear hb3 HAW hbig1 hbig2
  go_wp2_with fail
  refine (write_any last HL0.out.1 HL0.out.2 nums numsLen numsCap l w3 (HNA.out.below HB3.out (Nat.le_refl _)) (by omega) (HTAB.out.below HB3.out (Nat.le_refl _))).mono ?_
  rintro e w4 ⟨rfl, hb4⟩
  have HB4 := hid (HB3.out.trans (hb4.mono HB3.out.size))
  clear hb4
  obtain ⟨S, hS⟩ : ∃ S, S = writeB last l := ⟨_, rfl⟩
  rw [← hS]
  have HSE := hid hS
  clear hS
  go_upto_region 4 with fail
  obtain ⟨r0, hr0⟩ : ∃ r0, r0 = decide (64 ≤ last ∧ last ≤ 126) := ⟨_, rfl⟩
  have HR0 := hid hr0
  clear hr0
  go_cut [8] (fun s8 wx => s8 = .bool r0 ∧ wx = w4)
  case first =>
    by_cases h1 : 64 ≤ last
    · by_cases h2 : last ≤ 126
      · have HD := hid (show r0 = true by rw [HR0.out]; exact decide_eq_true ⟨h1, h2⟩)
        go_wp2_with fail
        go_meet
        rw [HD.out]
        exact ⟨rfl, rfl⟩
      · have HD := hid (show r0 = false by rw [HR0.out]; exact decide_eq_false fun h => h2 h.2)
        go_wp2_with fail
        go_meet
        rw [HD.out]
        exact ⟨rfl, rfl⟩
    · have HD := hid (show r0 = false by rw [HR0.out]; exact decide_eq_false fun h => h1 h.1)
      go_wp2_with fail
      go_meet
      rw [HD.out]
      exact ⟨rfl, rfl⟩
  case rest =>
    obtain ⟨rfl, hw⟩ := hcut
    obtain rfl : w4 = wc := hw.symm
    go_wp2_with fail
    go_loopg [8, 9, 10] numsLen (fun kx s8 s9 s10 wr => ∃ (i : Nat) (rb : Bool) (x : ByteArray), s8 = .bool rb ∧ s9 = .string x ∧ s10 = .int .i64 i ∧ i ≤ numsLen ∧ numsLen - i ≤ kx ∧ wr = w4 ∧ Hid (rb = (r0 && (l.take i).all okN)) ∧ Hid (rb = true → x = wantN (l.take i)) ∧ Hid (x.size ≤ 2 + 7 * i))
    case atStart => exact ⟨0, r0, ⟨#[27, 91]⟩, rfl, rfl, rfl, Nat.zero_le _, by omega, rfl, (by show _ = _; simp), (fun _ => by rfl), Nat.le_refl _⟩
    case round =>
      obtain ⟨i, rb, x, rfl, rfl, rfl, hi, hg, hw, HRB, HX, HXS⟩ := hrel
      obtain rfl : w4 = wr := hw.symm
      by_cases hlt : i < numsLen
      · have hlt' : (i : Int) < (numsLen : Int) := by omega
        obtain ⟨b, off, rfl, hbl, hcl⟩ := (HNA.out.below HB4.out (Nat.le_refl _)).2 (by omega)
        have hcell := hcl i hlt
        have hil : i < l.length := by have := HNA.out.1; omega
        have hid' : l.getD i 0 = l[i] := by simp [List.getD_eq_getElem?_getD, hil]
        rw [hid'] at hcell
        have htk : l.take (i + 1) = l.take i ++ [l[i]] := by rw [List.take_add_one, List.getElem?_eq_getElem hil]; rfl
        have hem : l.take i = [] ↔ i = 0 := by
          rw [List.take_eq_nil_iff]
          constructor
          · rintro (h | h)
            · exact h
            · subst h; simp at hil
          · exact Or.inl
        generalize l[i] = y at *
        have HTK := hid htk
        have HEM := hid hem
        have HG := hid hg
        clear hcl hid' htk hem hil hg
        obtain ⟨r1, hr1⟩ : ∃ r1, r1 = (rb && okN y) := ⟨_, rfl⟩
        have HR1 := hid hr1
        clear hr1
        go_upto_region 9 with fail
        go_cut [8] (fun s8 wx => s8 = .bool r1 ∧ wx = w4)
        case first =>
          cases rb
          · have HD := hid (show r1 = false from HR1.out)
            go_wp2_with fail
            go_meet
            rw [HD.out]
            exact ⟨rfl, rfl⟩
          · by_cases h1 : 0 ≤ y
            · by_cases h2 : y ≤ 99999
              · have HD := hid (show r1 = true by rw [HR1.out, Bool.true_and]; exact decide_eq_true ⟨h1, h2⟩)
                go_wp2_with fail
                go_meet
                rw [HD.out]
                exact ⟨rfl, rfl⟩
              · have HD := hid (show r1 = false by rw [HR1.out, Bool.true_and]; exact decide_eq_false fun h => h2 h.2)
                go_wp2_with fail
                go_meet
                rw [HD.out]
                exact ⟨rfl, rfl⟩
            · have HD := hid (show r1 = false by rw [HR1.out, Bool.true_and]; exact decide_eq_false fun h => h1 h.1)
              go_wp2_with fail
              go_meet
              rw [HD.out]
              exact ⟨rfl, rfl⟩
        case rest =>
          obtain ⟨rfl, hw⟩ := hcut
          obtain rfl : w4 = wc := hw.symm
          obtain ⟨x1, hx1⟩ : ∃ x1, x1 = if i = 0 then x else x ++ semiB := ⟨_, rfl⟩
          have hxs1 : x1.size ≤ 3 + 7 * i := by
            rw [hx1]
            split
            · have := HXS.out; omega
            · rw [ByteArray.size_append, semi_size]; have := HXS.out; omega
          have HX1 := hid hx1
          have HXS1 := hid hxs1
          clear hx1 hxs1
          go_upto_if 59 with fail
          go_cut [9] (fun s9 wx => s9 = .string x1 ∧ wx = w4)
          case first =>
            by_cases h0 : i = 0
            · have h0' : ¬ (0 : Int) < (i : Int) := by omega
              have HD := hid (show x1 = x by rw [HX1.out, if_pos h0])
              clear h0
              go_wp2_with fail
              go_meet
              rw [HD.out]
              exact ⟨rfl, rfl⟩
            · have h0' : (0 : Int) < (i : Int) := by omega
              have hbd : ¬ (x.size + (⟨#[59]⟩ : ByteArray).size > 9223372036854775807) := by
                show ¬ (x.size + 1 > _)
                have := HXS.out; omega
              have HD := hid (show x1 = x ++ semiB by rw [HX1.out, if_neg h0])
              clear h0
              go_wp2_with fail
              go_meet
              rw [HD.out]
              exact ⟨rfl, rfl⟩
          case rest =>
            obtain ⟨rfl, hw⟩ := hcut
            obtain rfl : w4 = wc := hw.symm
            have hrel1 : r1 = true → rb = true ∧ (0 ≤ y ∧ y ≤ 99999) := by
              rw [HR1.out, Bool.and_eq_true]
              exact fun h => ⟨h.1, of_decide_eq_true h.2⟩
            have hall : r1 = (r0 && (l.take (i + 1)).all okN) := by
              rw [HTK.out, all_snoc, HR1.out, HRB.out, Bool.and_assoc]
            have HREL1 := hid hrel1
            have HALL := hid hall
            clear hrel1 hall
            have hi1 : (i : Int) + 1 ≤ 9223372036854775807 := by omega
            cases r1
            · go_wp2_with fail
              go_roundg (numsLen - (i + 1))
              case measure => have := HG.out; omega
              case rel => exact ⟨i + 1, false, x1, rfl, rfl, rfl, by omega, Nat.le_refl _, rfl, HALL, (fun h => by cases h), (by show _ ≤ _; have := HXS1.out; omega)⟩
            · obtain ⟨hrb, hy0, hy1⟩ := HREL1.out rfl
              have hwx := HX.out hrb
              have hwn := wantN_snoc (l.take i) y
              obtain ⟨k, rfl⟩ : ∃ k : Nat, y = k := ⟨y.toNat, by omega⟩
              have hyz := itoaB_size hy0 hy1
              have hcat : x1 ++ itoaB k = wantN (l.take (i + 1)) := by
                rw [HTK.out, hwn, HX1.out, hwx]
                by_cases h0 : i = 0
                · rw [if_pos h0, if_pos (HEM.out.2 h0)]
                · rw [if_neg h0, if_neg (fun h => h0 (HEM.out.1 h))]
              have HCAT := hid hcat
              have HYZ := hid hyz
              have HDG := hid (digits_any k (by omega) w4)
              have hbd : ¬ (x1.size + (itoaB k).size > 9223372036854775807) := by have := HXS1.out; omega
              clear hrb hwx hwn hyz hcat hy0 hy1
              generalize itoaB k = D at *
              go_wp2_with fail
              refine HDG.out.mono ?_
              rintro e w5 ⟨rfl, hw⟩
              obtain rfl : w4 = w5 := hw.symm
              go_wp2_with fail
              go_roundg (numsLen - (i + 1))
              case measure => have := HG.out; omega
              case rel => exact ⟨i + 1, true, x1 ++ D, rfl, rfl, rfl, by omega, Nat.le_refl _, rfl, HALL, (fun _ => HCAT.out), (by show _ ≤ _; rw [ByteArray.size_append]; have := HXS1.out; have := HYZ.out; omega)⟩
      · have hlt' : ¬ (i : Int) < (numsLen : Int) := by omega
        have hta : l.take i = l := List.take_of_length_le (by have := HNA.out.1; omega)
        have hrb := HRB.out
        have hx := HX.out
        rw [hta] at hrb hx
        rw [HR0.out] at hrb
        have hri := right_iff last l
        rw [← hrb] at hri
        have HRI := hid hri
        have HX2 := hid hx
        clear hta hrb hx hri hlt hg
        cases rb
        · obtain rfl : S = ⟨#[]⟩ := by rw [HSE.out]; exact writeB_wrong fun h => by cases (HRI.out.1 h)
          go_wp2_with fail
          go_ret
          exact ⟨rfl, HB4.out⟩
        · have hright := HRI.out.2 rfl
          have HR := hid hright
          have hread := writ_read hright s
          have hnums := writ_nums hright
          have hws := writeB_right hright
          rw [← HSE.out] at hread hnums hws
          have hssz : S.size = 3 + (joinI l).size := by rw [hws]; exact writ_size _ _
          have hjz := (joinI_byt l hright.2).2
          have hSs : S.size ≤ 123 := by have := HNA.out.1; omega
          have HREAD := hid hread
          have HNUMS := hid hnums
          have HWS := hid hws
          have HSS := hid hSs
          clear hright hread hnums hws hssz hjz hSs
          have hcv := Lib.run_convert_string_bytes (P := Tryd.prog) w4 9 22 5 S Tryd.underlying9 Tryd.underlying22 Tryd.underlying5
          have hba4 := (HS.out.below HB4.out (Nat.le_refl _)).below (bytesWorld_below w4 5 S) (Nat.le_refl _)
          have HBA4 := hid hba4
          clear hba4
          go_wp2_with (at_builtin; go_must (refine wpList_append_conv rfl (.tmp 75) (.tmp 76) rfl w4 S s rfl a aLen aCap rfl HBA4.out (by have := HSS.out; omega) (by omega) ?_); intro A5 c5 w5 hba5 hb5)
          have HB5 := hid (HB4.out.trans (hb5.mono HB4.out.size))
          have hrd := read_any A5 (S.size + aLen) c5 0 (S ++ s) w5 hba5 (by have := HSS.out; omega) (by decide)
          rw [HREAD.out] at hrd
          simp only [Es.val] at hrd
          have HRD := hid hrd
          clear hrd hb5 hba5 hcv
          refine HRD.out.mono ?_
          rintro e w6 ⟨rfl, hb6⟩
          have hb7 := (Below.refl w6.heap.size w6).alloc (Nat.le_refl _) (.cells #[.int .i64 S.size, .bool true, .bool false, .int .u8 last] 25)
          have hr7 := Blk.new w6 25 #[.int .i64 S.size, .bool true, .bool false, .int .u8 last]
          have HB7 := hid ((HB5.out.trans (hb6.mono HB5.out.size)).trans (hb7.mono (by have := HB5.out.size; have := hb6.size; omega)))
          have HR7 := hid hr7
          clear hb6 hb7 hr7 HRD HREAD HBA4
          go_upto_region 17 with fail
          generalize w6.alloc (.cells #[.int .i64 S.size, .bool true, .bool false, .int .u8 last] 25) = w7 at *
          have hcv := Lib.run_convert_string_bytes (P := Tryd.prog) w7 9 22 5 S Tryd.underlying9 Tryd.underlying22 Tryd.underlying5
          have hb8 := bytesWorld_below w7 5 S
          have hr8 := HR7.out.below hb8 HR7.out.lt
          have HB8 := hid (HB7.out.trans (hb8.mono HB7.out.size))
          have hba8 : BA (Lib.bytesWorld w7 5 S) (some ⟨w7.heap.size, 0, none⟩) S.size (grownCap w7 S.size 0 5) S :=
            ⟨rfl, grownCap_ge _ _ _ _, by have := grownCap_le_maxLen w7 S.size 0 5 (by unfold maxLen; have := HSS.out; omega); unfold maxLen at this; omega, fun hn => ⟨w7.heap.size, 0, rfl, by rw [Lib.bytesWorld_size]; omega, bytesWorld_new w7 5 S⟩⟩
          have HBA8 := hid hba8
          have HR8 := hid hr8
          clear hb8 hr8 hba8
          go_wp2_with fail
          have hnm := nums_any (some ⟨w7.heap.size, 0, none⟩) S.size (grownCap w7 S.size 0 5) 0 S m _ pe _ HBA8.out (by have := HSS.out; omega) (by decide) ((HB8.out.cell (p := ⟨0, 0, none⟩) h0l).trans HML.out) ((HB8.out.cell (p := ⟨Tryd.laysC172_ren.g 15, 0, none⟩) hgl).trans HEV.out)
          rw [HNUMS.out] at hnm
          simp only [Option.getD_some, Option.isSome_some] at hnm
          obtain ⟨l2, hl2⟩ : ∃ l2, l2 = if l = [] then [0] else l := ⟨_, rfl⟩
          rw [← hl2] at hnm
          have hlen2 : l2.length = max numsLen 1 := by
            rw [hl2, HNA.out.1]
            split
            · rename_i h; subst h; rfl
            · rename_i h
              have := List.length_pos_iff.2 h
              omega
          have hget2 : ∀ j, j < numsLen → l2[j]? = some (l.getD j 0) := by
            intro j hj
            have hjl : j < l.length := by have := HNA.out.1; omega
            rw [hl2, if_neg (by intro h; subst h; simp at hjl), List.getElem?_eq_getElem hjl]
            simp [List.getD_eq_getElem?_getD, hjl]
          have HL2 := hid hlen2
          have HG2 := hid hget2
          have HNM := hid hnm
          clear hl2 hlen2 hget2 hnm hcv HBA8 HNUMS
          refine HNM.out.mono ?_
          rintro e w9 ⟨v9, rfl, hb9, ho9⟩
          have HB9 := hid (HB8.out.trans (hb9.mono HB8.out.size))
          have HR9 := hid (HR8.out.below hb9 HR8.out.lt)
          obtain ⟨A9, c9, rfl, hx1, hx2, hcc9⟩ := owns_form ho9
          have HCC9 := hid hcc9
          have hLc : (numsLen : Int) ≤ 20 := by omega
          clear hb9 ho9 hcc9 hx1 hx2 HNM HR8
          generalize l2.length = L2 at *
          have hcat : x ++ oneB last = S := by
            rw [HX2.out (by trivial), HWS.out]
            unfold wantN
            simp only [append_assoc3]
          have hxz : ¬ (x.size + (oneB last).size > 9223372036854775807) := by
            have h1 := HSS.out
            rw [← hcat, ByteArray.size_append] at h1
            omega
          have hcn : ∀ W : World, (convert 22 9 (.slice (some ⟨W.heap.size, 0, none⟩) 1 1)).run Tryd.prog (W.alloc (.cells #[.int .u8 last] 5)) = .ok (.string (oneB last)) (W.alloc (.cells #[.int .u8 last] 5)) := fun W => conv_one _ W.heap.size 5 last HL0.out.1 HL0.out.2 (Blk.new W 5 #[.int .u8 last])
          generalize oneB last = L1 at *
          have hmx : ((L2 : Int) != max (numsLen : Int) 1) = false := by
            have := HL2.out
            simp
            omega
          clear HSE HWS HX2
          go_upto_region 18 with fail
          have hb10 := (Below.refl w9.heap.size w9).alloc (Nat.le_refl _) (.cells #[.int .u8 last] 5)
          have hr10 := HR9.out.below hb10 HR9.out.lt
          have HB10 := hid (HB9.out.trans (hb10.mono HB9.out.size))
          have HX10 := hid hb10
          have k0 := hr10.cell 0
          have k1 := hr10.cell 1
          have k3 := hr10.cell 3
          simp only [List.getElem?_toArray, List.getElem?_cons_zero, List.getElem?_cons_succ] at k0 k1 k3
          clear hb10 hr10
          go_wp2_with fail
          clear hcat hxz hcn hmx k0 k1 k3
          go_loopg [14] numsLen (fun kx s14 wr => ∃ (j q : Nat), s14 = .int .i64 j ∧ wr = (w9.alloc (.cells #[.int .u8 last] 5)).drewN q ∧ j ≤ numsLen ∧ numsLen - j ≤ kx)
          case atStart => exact ⟨0, 0, rfl, rfl, Nat.zero_le _, by omega⟩
          case round =>
            obtain ⟨j, q, rfl, rfl, hj, hg⟩ := hrel
            by_cases hlt : j < numsLen
            · have hlt' : (j : Int) < (numsLen : Int) := by omega
              have hjm : j < L2 := by have := HL2.out; omega
              obtain ⟨b, off, rfl, hbl, hcl⟩ := (HNA.out.below HB10.out (Nat.le_refl _)).2 (by omega)
              obtain ⟨g9, rfl, _, hg9, hcell9⟩ := HCC9.out (by omega)
              have e8 := hcl j hlt
              have e9 : (w9.alloc (.cells #[.int .u8 last] 5)).cell? ⟨g9, j, none⟩ = some (.int .i64 (l.getD j 0)) := by
                rw [HX10.out.cell (p := ⟨g9, j, none⟩) hg9, hcell9 j (by omega)]
                unfold intCells
                rw [List.getElem?_map, HG2.out j hlt]
                rfl
              generalize l.getD j 0 = y at *
              have hi1 : (j : Int) + 1 ≤ 9223372036854775807 := by omega
              have hjm' : (j : Int) < (L2 : Int) := by omega
              clear hcl hcell9
              go_wp2_with fail
              go_quiet (fail)
              go_wp2_with fail
              go_roundg (numsLen - (j + 1))
              case measure => omega
              case rel => exact ⟨j + 1, _, by go_num, rfl, by omega, Nat.le_refl _⟩
            · have hlt' : ¬ (j : Int) < (numsLen : Int) := by omega
              go_wp2_with fail
              go_ret
              exact ⟨rfl, HB10.out.trans (below_drewN _ _ _)⟩
end Go.Proofs.YtlopigkaibkblaaDoor.ansiWrites
