/- Chapter 18: a tag, written: the walk. -/
import Derived.Test.YtpkbmgpbagdalaaTagAlike
import Derived.Test.YtpkbmgpbagdalaaTagW3
namespace Go.Proofs.Ytpkbmgpbagdalaa
open Go.RowKit
open Go.Lib (hid)
set_option linter.unusedVariables false

noncomputable def goodA (a : ByteArray × ByteArray) : Bool := plainB a.1 && !quoteB a.2
noncomputable def goodM (M : Mk) : Bool := (decide (M.kind = 0 ∨ M.kind = 1) && plainB M.name) && M.attrs.all goodA
noncomputable def writeV (M : Mk) : ByteArray := if goodM M = true then writeW M.kind M.name M.attrs M.single else ⟨#[]⟩

theorem bodyW_snoc (l : List (ByteArray × ByteArray)) (a : ByteArray × ByteArray) : ∀ x, bodyW x (l ++ [a]) = bodyW x l ++ attrW a := by
  induction l with
  | nil => intro x; rfl
  | cons b l ih => intro x; exact ih _
theorem attrW_size (a : ByteArray × ByteArray) : (attrW a).size = a.1.size + a.2.size + 4 := by
  unfold attrW
  simp only [ByteArray.size_append, show (⟨#[32]⟩ : ByteArray).size = 1 from rfl, show (⟨#[61, 34]⟩ : ByteArray).size = 2 from rfl, show (⟨#[34]⟩ : ByteArray).size = 1 from rfl]
  omega
theorem headW_size (kd : Int) (nm : ByteArray) : (headW kd nm).size ≤ 2 + nm.size := by
  unfold headW slashW
  split <;> simp only [ByteArray.size_append, show (⟨#[60]⟩ : ByteArray).size = 1 from rfl, show (⟨#[47]⟩ : ByteArray).size = 1 from rfl, show (⟨#[]⟩ : ByteArray).size = 0 from rfl] <;> omega
theorem bodyW_size (l : List (ByteArray × ByteArray)) (ha : ∀ a ∈ l, a.1.size ≤ 60 ∧ a.2.size ≤ 60) : ∀ x, (bodyW x l).size ≤ x.size + l.length * 124 := by
  induction l with
  | nil => intro x; exact Nat.le_refl _
  | cons a l ih =>
    intro x
    have h := ih (fun b hb => ha b (List.mem_cons_of_mem _ hb)) (x ++ attrW a)
    have h2 := ha a (List.mem_cons_self ..)
    rw [ByteArray.size_append, attrW_size] at h
    rw [List.length_cons]
    show (bodyW (x ++ attrW a) l).size ≤ _
    omega
theorem writeV_bad {M : Mk} (h : goodM M = false) : writeV M = ⟨#[]⟩ := by unfold writeV; rw [if_neg (by rw [h]; decide)]
theorem writeV_good {M : Mk} (h : goodM M = true) : writeV M = writeW M.kind M.name M.attrs M.single := by unfold writeV; rw [if_pos h]
theorem goodM_all {M : Mk} {i : Nat} {a : ByteArray × ByteArray} (h : M.attrs[i]? = some a) (hb : goodA a = false) : goodM M = false := by
  unfold goodM
  have : M.attrs.all goodA = false := by
    rw [List.all_eq_false]
    exact ⟨a, List.mem_of_getElem? h, by rw [hb]; decide⟩
  rw [this, Bool.and_false]

theorem repeat_any (kd : Int) (hk : kd = 0 ∨ kd = 1) (w : World) : Calls Try.prog 27 #[.string ⟨#[47]⟩, .int .i64 kd] w fun e w' => e = .returned (.string (slashW kd)) ∧ w' = w := by
  rcases hk with rfl | rfl
  · exact repeat0_any _ w
  · exact repeat1_any _ w

set_option maxRecDepth 100000 in
set_option maxHeartbeats 8000000 in
theorem tagwrite_any (M : Mk) (v : Value) (w : World) (hv : AtRow w v M.attrs) (hl : M.attrs.length ≤ 8) (hn : M.name.size ≤ 60) (ha : ∀ a ∈ M.attrs, a.1.size ≤ 60 ∧ a.2.size ≤ 60) :
    Calls Try.prog 16 #[M.val v] w fun e w' => e = .returned (.string (writeV M)) ∧ Below w.heap.size w w' := by
  have hbad := fun h => writeV_bad (M := M) h
  have hgood := fun h => writeV_good (M := M) h
  have hall := fun i a h1 h2 => hbad (goodM_all (M := M) (i := i) (a := a) h1 h2)
  have HBAD : Hid (goodM M = false → writeV M = ⟨#[]⟩) := hbad
  have HGOOD : Hid (goodM M = true → writeV M = writeW M.kind M.name M.attrs M.single) := hgood
  have HALL : Hid (∀ (i : Nat) (a : ByteArray × ByteArray), M.attrs[i]? = some a → goodA a = false → writeV M = ⟨#[]⟩) := hall
  have HDEF : Hid (goodM M = ((decide (M.kind = 0 ∨ M.kind = 1) && plainB M.name) && M.attrs.all goodA)) := rfl
  clear hbad hgood hall
  generalize goodM M = gm at HBAD HGOOD HDEF
  generalize writeV M = out at *
  obtain ⟨kd, sz, nm, l, sg, cl⟩ := M
  simp only [Mk.val]
  simp only at hv hl hn ha HGOOD HALL HDEF
  obtain ⟨A, c, rfl, hlc, hr⟩ := id hv
  have hb1 := (Below.refl w.heap.size w).alloc (Nat.le_refl _) (.cells #[.int .i64 kd, .int .i64 sz, .string nm, .slice A l.length c, .bool sg, .bool cl] 26)
  have hr1 := Blk.new w 26 #[.int .i64 kd, .int .i64 sz, .string nm, .slice A l.length c, .bool sg, .bool cl]
  have hpl := tagplain_any nm (by omega)
  have HPL := hid hpl
  have HV := hid (hv.below hb1)
  have HA := hid ha
  clear hv hr hpl ha
  generalize hL : l.length = L at *
  have HL := hid hL
  clear hL
  by_cases hk : kd = 0 ∨ kd = 1
  · cases hp : plainB nm
    · have HO := hid (HBAD.out (by rw [HDEF.out, hp]; simp))
      have hpl := HPL.out
      rw [hp] at hpl
      have HPL2 := hid hpl
      clear hpl hp HPL
      have hc0 := hr1.cell 0
      have hc2 := hr1.cell 2
      simp only [List.getElem?_toArray, List.getElem?_cons_zero, List.getElem?_cons_succ] at hc0 hc2
      have HB1 := hid hb1
      clear hr1 hb1
      rcases hk with rfl | rfl
      all_goals
        go_enter Try.func16, Try.ntmps16
        go_upto_region 1 with fail
        generalize w.alloc (.cells #[.int .i64 _, .int .i64 sz, .string nm, .slice A L c, .bool sg, .bool cl] 26) = w1 at *
        go_wp2_with fail
        refine (HPL2.out _).mono ?_
        rintro e w2 ⟨rfl, hb2⟩
        go_wp2_with fail
        go_ret
        rw [HO.out]
        exact ⟨rfl, HB1.out.trans (hb2.mono HB1.out.size)⟩
    · have hpl := HPL.out
      rw [hp] at hpl
      have HPL2 := hid hpl
      have HDEF2 := hid (show l.all goodA = true → gm = true by intro h; rw [HDEF.out, hp, h]; simp [hk])
      clear hpl hp HPL HDEF
      have hc0 := hr1.cell 0
      have hc2 := hr1.cell 2
      have hc3 := hr1.cell 3
      have hc4 := hr1.cell 4
      simp only [List.getElem?_toArray, List.getElem?_cons_zero, List.getElem?_cons_succ] at hc0 hc2 hc3 hc4
      have HB1 := hid hb1
      have HR1 := hid hr1
      clear hr1 hb1
      have hh : headW kd nm = (⟨#[60]⟩ ++ slashW kd) ++ nm := rfl
      have hrep := fun W => repeat_any kd hk W
      have hsw : (slashW kd).size ≤ 1 := by unfold slashW; split <;> decide
      have hhs := headW_size kd nm
      have hwr : writeW kd nm l sg = singleW (bodyW (headW kd nm) l) sg ++ ⟨#[62]⟩ := rfl
      have hg := HGOOD.out
      rw [hwr] at hg
      have HGOOD2 := hid hg
      clear hg hwr HGOOD
      generalize slashW kd = sw at *
      generalize headW kd nm = x0 at *
      have hsz1 : ¬ ((⟨#[60]⟩ : ByteArray).size + sw.size > 9223372036854775807) := by show ¬ (1 + sw.size > _); omega
      have hsz2 : ¬ ((⟨#[60]⟩ ++ sw : ByteArray).size + nm.size > 9223372036854775807) := by rw [ByteArray.size_append]; show ¬ (1 + sw.size + nm.size > _); omega
      have HH := hid hh
      have HREP := hid hrep
      have HHS := hid hhs
      clear hh hrep hhs hsw
      rcases hk with rfl | rfl
      all_goals
        go_enter Try.func16, Try.ntmps16
        go_upto_region 1 with fail
        generalize w.alloc (.cells #[.int .i64 _, .int .i64 sz, .string nm, .slice A L c, .bool sg, .bool cl] 26) = w1 at *
        go_wp2_with fail
        refine (HPL2.out _).mono ?_
        rintro e w2 ⟨rfl, hb2⟩
        have hr2 := HR1.out.below hb2 HR1.out.lt
        have d0 := hr2.cell 0
        have d2 := hr2.cell 2
        have d3 := hr2.cell 3
        have d4 := hr2.cell 4
        simp only [List.getElem?_toArray, List.getElem?_cons_zero, List.getElem?_cons_succ] at d0 d2 d3 d4
        have HR2 := hid hr2
        have HB2 := hid (HB1.out.trans (hb2.mono HB1.out.size))
        have HV2 := hid (HV.out.below hb2)
        clear hr2 hb2 hc0 hc2 hc3 hc4 HPL2
        go_wp2_with fail
        go_quiet ((go_at_call 27; exact Calls.quiet_of_same (HREP.out _)))
        go_wp2_with fail
        rw [← HH.out]
        have hbs := fun (i : Nat) (hi : i ≤ L) => bodyW_size (l.take i) (fun a ha => HA.out a (List.mem_of_mem_take ha)) x0
        have HBS := hid hbs
        have hr2 := HR2.out.lt
        clear hbs hsz1 hsz2 HREP HBAD d0 d2 d3
        go_loopg [3, 30] L (fun kx s3 s30 wr => ∃ (i : Nat) (x : ByteArray), s3 = .string x ∧ s30 = .int .i64 i ∧ i ≤ L ∧ L - i ≤ kx ∧ Hid (x = bodyW x0 (l.take i)) ∧ Hid (∀ a, a ∈ l.take i → goodA a = true) ∧ Hid (Below w2.heap.size w2 wr))
        case atStart => exact ⟨0, x0, rfl, rfl, Nat.zero_le _, by omega, rfl, fun a h => by simp at h, below_drewN _ _ _⟩
        case round =>
          obtain ⟨i, x, rfl, rfl, hi, hk, HX, HG, HB⟩ := hrel
          have hxs : x.size ≤ 62 + i * 124 := by
            have := HBS.out i hi
            have h2 := HHS.out
            rw [← HX.out, List.length_take] at this
            have h3 : min i l.length ≤ i := Nat.min_le_left _ _
            have h4 : min i l.length * 124 ≤ i * 124 := Nat.mul_le_mul_right _ h3
            omega
          by_cases hlt : i < L
          · have hlt' : (i : Int) < (L : Int) := by omega
            obtain ⟨A', c', hA', _, hrr⟩ := HV2.out
            injection hA' with hA1 hA2 hA3
            clear hA2 hA3
            obtain ⟨b, off, hAe, hbl, hcell⟩ := hrr (by have := HL.out; omega)
            have hil : i < l.length := by have := HL.out; omega
            have hai : l[i]? = some l[i] := List.getElem?_eq_getElem hil
            obtain ⟨n1, v1⟩ := hcell i _ hai
            have e1 := (HB.out.cell (p := ⟨b, _, none⟩) hbl).trans n1
            have e2 := (HB.out.cell (p := ⟨b, _, none⟩) hbl).trans v1
            have hta : l.take (i + 1) = l.take i ++ [l[i]] := by rw [List.take_add_one, hai]; rfl
            have hsa := HA.out l[i] (List.getElem_mem hil)
            have hbo := HALL.out i l[i] hai
            generalize l[i] = at_ at *
            obtain ⟨an, av⟩ := at_
            simp only at e1 e2 hsa
            have hsn := hsa.1
            have hsv := hsa.2
            have hapl := tagplain_any an (by omega)
            have hcon := fun W => contains1_any av 34 W
            have hxn : bodyW x0 (l.take (i + 1)) = x ++ ((((⟨#[32]⟩ ++ an) ++ ⟨#[61, 34]⟩) ++ av) ++ ⟨#[34]⟩) := by rw [hta, bodyW_snoc, ← HX.out]; rfl
            have hgn : goodA (an, av) = true → ∀ a, a ∈ l.take (i + 1) → goodA a = true := fun h a ha => by
              rw [hta] at ha
              rcases List.mem_append.1 ha with h2 | h2
              · exact HG.out a h2
              · rw [List.mem_singleton.1 h2]; exact h
            have HGA : Hid (goodA (an, av) = (plainB an && !quoteB av)) := rfl
            have b1 : ¬ ((⟨#[32]⟩ : ByteArray).size + an.size > 9223372036854775807) := by show ¬ (1 + an.size > _); omega
            have b2 : ¬ ((⟨#[32]⟩ ++ an : ByteArray).size + (⟨#[61, 34]⟩ : ByteArray).size > 9223372036854775807) := by rw [ByteArray.size_append]; show ¬ (1 + an.size + 2 > _); omega
            have b3 : ¬ ((⟨#[32]⟩ ++ an ++ ⟨#[61, 34]⟩ : ByteArray).size + av.size > 9223372036854775807) := by rw [ByteArray.size_append, ByteArray.size_append]; show ¬ (1 + an.size + 2 + av.size > _); omega
            have b4 : ¬ ((⟨#[32]⟩ ++ an ++ ⟨#[61, 34]⟩ ++ av : ByteArray).size + (⟨#[34]⟩ : ByteArray).size > 9223372036854775807) := by rw [ByteArray.size_append, ByteArray.size_append, ByteArray.size_append]; show ¬ (1 + an.size + 2 + av.size + 1 > _); omega
            have b5 : ¬ (x.size + (⟨#[32]⟩ ++ an ++ ⟨#[61, 34]⟩ ++ av ++ ⟨#[34]⟩ : ByteArray).size > 9223372036854775807) := by rw [ByteArray.size_append, ByteArray.size_append, ByteArray.size_append, ByteArray.size_append]; show ¬ (x.size + (1 + an.size + 2 + av.size + 1) > _); omega
            have HXN := hid hxn
            have HGN := hid hgn
            have HBO := hid hbo
            have hi1 : (i : Int) + 1 ≤ 9223372036854775807 := by omega
            subst hA1
            subst hAe
            clear hcell hrr n1 v1 hai hta hsa hsn hsv hxn hgn hbo hxs
            have hbw := (Below.refl wr.heap.size wr).alloc (Nat.le_refl _) (.cells #[.string an, .string av] 38)
            have hrw := Blk.new wr 38 #[.string an, .string av]
            have HBW := hid (HB.out.trans (hbw.mono HB.out.size))
            clear hbw
            cases hp2 : plainB an
            · rw [hp2] at hapl
              have HAPL := hid hapl
              have HO := hid (HBO.out (by rw [HGA.out, hp2]; rfl))
              have q0 := hrw.cell 0
              simp only [List.getElem?_toArray, List.getElem?_cons_zero] at q0
              clear hapl hp2 hcon hrw b1 b2 b3 b4 b5
              go_upto_region 7 with fail
              generalize wr.alloc (.cells #[.string an, .string av] 38) = wb at *
              go_wp2_with fail
              refine (HAPL.out _).mono ?_
              rintro e w4 ⟨rfl, hb4⟩
              go_wp2_with fail
              go_ret
              rw [HO.out]
              exact ⟨rfl, HB2.out.trans ((HBW.out.trans (hb4.mono HBW.out.size)).mono HB2.out.size)⟩
            · rw [hp2] at hapl
              have HAPL := hid hapl
              have q0 := hrw.cell 0
              simp only [List.getElem?_toArray, List.getElem?_cons_zero] at q0
              have HRW := hid hrw
              clear hapl hrw
              cases hq2 : quoteB av
              · have hdc : decide (0 ≤ Lib.indexByte av.data.toList 34) = false := hq2
                rw [hdc] at hcon
                have HCON := hid hcon
                have HN := hid (HGN.out (by rw [HGA.out, hp2, hq2]; rfl))
                clear hdc hcon hp2 hq2
                go_upto_region 7 with fail
                generalize wr.alloc (.cells #[.string an, .string av] 38) = wb at *
                go_wp2_with fail
                refine (HAPL.out _).mono ?_
                rintro e w4 ⟨rfl, hb4⟩
                have hr4 := HRW.out.below hb4 HRW.out.lt
                have p0 := hr4.cell 0
                have p1 := hr4.cell 1
                simp only [List.getElem?_toArray, List.getElem?_cons_zero, List.getElem?_cons_succ] at p0 p1
                have HB4 := hid (HBW.out.trans (hb4.mono HBW.out.size))
                clear hr4 hb4 q0
                go_wp2_with fail
                refine (HCON.out _).mono ?_
                rintro e w5 ⟨rfl, hw⟩
                obtain rfl : w4 = w5 := hw.symm
                go_wp2_with fail
                go_roundg (L - (i + 1))
                case measure => omega
                case rel => exact ⟨i + 1, _, rfl, rfl, by omega, Nat.le_refl _, HXN.out.symm, HN, HB4⟩
              · have hdc : decide (0 ≤ Lib.indexByte av.data.toList 34) = true := hq2
                rw [hdc] at hcon
                have HCON := hid hcon
                have HO := hid (HBO.out (by rw [HGA.out, hp2, hq2]; rfl))
                clear hdc hcon hp2 hq2 b1 b2 b3 b4 b5
                go_upto_region 7 with fail
                generalize wr.alloc (.cells #[.string an, .string av] 38) = wb at *
                go_wp2_with fail
                refine (HAPL.out _).mono ?_
                rintro e w4 ⟨rfl, hb4⟩
                have hr4 := HRW.out.below hb4 HRW.out.lt
                have p0 := hr4.cell 0
                have p1 := hr4.cell 1
                simp only [List.getElem?_toArray, List.getElem?_cons_zero, List.getElem?_cons_succ] at p0 p1
                have HB4 := hid (HBW.out.trans (hb4.mono HBW.out.size))
                clear hr4 hb4 q0
                go_wp2_with fail
                refine (HCON.out _).mono ?_
                rintro e w5 ⟨rfl, hw⟩
                obtain rfl : w4 = w5 := hw.symm
                go_wp2_with fail
                go_ret
                rw [HO.out]
                exact ⟨rfl, HB2.out.trans (HB4.out.mono HB2.out.size)⟩
          · have hlt' : ¬ (i : Int) < (L : Int) := by omega
            have htk : l.take i = l := List.take_of_length_le (by have := HL.out; omega)
            have hx := HX.out
            have hgg := HG.out
            rw [htk] at hx hgg
            have HO := hid (HGOOD2.out (HDEF2.out (List.all_eq_true.2 hgg)))
            rw [← hx] at HO
            have d4' := (HB.out.cell (p := ⟨w.heap.size, 4, none⟩) hr2).trans d4
            have f1 : ¬ (x.size + (⟨#[32, 47]⟩ : ByteArray).size > 9223372036854775807) := by show ¬ (x.size + 2 > _); omega
            have f2 : ¬ ((x ++ ⟨#[32, 47]⟩ : ByteArray).size + (⟨#[62]⟩ : ByteArray).size > 9223372036854775807) := by rw [ByteArray.size_append]; show ¬ (x.size + 2 + 1 > _); omega
            have f3 : ¬ (x.size + (⟨#[62]⟩ : ByteArray).size > 9223372036854775807) := by show ¬ (x.size + 1 > _); omega
            clear htk hx hgg hxs d4
            cases sg
            · go_wp2_with fail
              go_ret
              rw [HO.out]
              exact ⟨rfl, HB2.out.trans (HB.out.mono HB2.out.size)⟩
            · go_wp2_with fail
              go_ret
              rw [HO.out]
              exact ⟨rfl, HB2.out.trans (HB.out.mono HB2.out.size)⟩
  · have HO := hid (HBAD.out (by rw [HDEF.out]; simp [hk]))
    have k0 : ¬ kd = 0 := fun h => hk (.inl h)
    have k1 : ¬ kd = 1 := fun h => hk (.inr h)
    have k0b : (kd != 0) = true := by simpa using k0
    have k1b : (kd != 1) = true := by simpa using k1
    clear hk
    have hc0 := hr1.cell 0
    simp only [List.getElem?_toArray, List.getElem?_cons_zero] at hc0
    have HB1 := hid hb1
    clear hr1 hb1
    go_enter Try.func16, Try.ntmps16
    go_upto_region 1 with fail
    generalize w.alloc (.cells #[.int .i64 kd, .int .i64 sz, .string nm, .slice A L c, .bool sg, .bool cl] 26) = w1 at *
    go_wp2_with fail
    go_ret
    rw [HO.out]
    exact ⟨rfl, HB1.out⟩
end Go.Proofs.Ytpkbmgpbagdalaa
