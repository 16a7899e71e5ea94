/- The walk of the law TagWrites. -/
import Derived.Test.YtpkbmgpbagdalaaOpenRows
import Derived.Test.YtpkbmgpbagdalaaTagAwake
import Derived.Test.YtpkbmgpbagdalaaTagW4
import Derived.Test.YtpkbmgpbagdalaaTagW5
import Derived.Deep.DeepCutAuto
namespace Go.Proofs.Ytpkbmgpbagdalaa.tagWrites
open Go.RowKit
open Go.Lib (hid)
set_option linter.unusedVariables false

theorem at_of_agg {w : World} {a : Option Addr} {len cap : Nat} {D : List (List Value)} (h : IsAggRow [.string, .string] w a len cap D) : ∃ l : List (ByteArray × ByteArray), l.length = len ∧ AtRow w (.slice a len cap) l := by
  obtain ⟨hD, hk, hle, _, hr⟩ := h
  have hx : ∀ i, i < len → ∃ x : ByteArray × ByteArray, D[i]? = some [.string x.1, .string x.2] := by
    intro i hi
    have hi' : i < D.length := by omega
    obtain ⟨hl, hf⟩ := hk D[i] (List.getElem_mem hi')
    obtain ⟨c0, e0, k0⟩ := hf 0 .string rfl
    obtain ⟨c1, e1, k1⟩ := hf 1 .string rfl
    obtain ⟨s0, rfl, _⟩ := k0
    obtain ⟨s1, rfl, _⟩ := k1
    refine ⟨(s0, s1), ?_⟩
    rw [List.getElem?_eq_getElem hi']
    generalize D[i] = r at hl e0 e1
    congr 1
    obtain ⟨p, q, rfl⟩ := list_of_len2 r hl
    simp only [List.getElem?_cons_zero, List.getElem?_cons_succ, Option.some.injEq] at e0 e1
    rw [e0, e1]
  obtain ⟨l, hl, hlx⟩ := exists_list len hx
  refine ⟨l, hl, a, cap, by rw [hl], by omega, fun h0 => ?_⟩
  rcases hr with h | ⟨b, off, rfl, hb, hc⟩
  · omega
  · refine ⟨b, off, rfl, hb, fun i x hi => ?_⟩
    have hd := hlx i x hi
    exact ⟨hc i _ 0 _ hd rfl, hc i _ 1 _ hd rfl⟩

/-- The tag under way: its block, and the row of its attributes. -/
structure TW (w3 wr : World) (kd : Int) (nm : ByteArray) (sg : Bool) (v : Value) (l : List (ByteArray × ByteArray)) : Prop where
  bel : Below w3.heap.size w3 wr
  blk : Blk wr w3.heap.size 26 #[.int .i64 kd, .int .i64 0, .string nm, v, .bool sg, .bool false]
  own : wr.ownsRow (w3.heap.size + 1) 38 2 v l.length (atCells l)
theorem TW.grow {w3 wr w' : World} {kd : Int} {nm : ByteArray} {sg : Bool} {v : Value} {l : List (ByteArray × ByteArray)} (h : TW w3 wr kd nm sg v l) (hb : Below wr.heap.size wr w') : TW w3 w' kd nm sg v l :=
  ⟨h.bel.trans (hb.mono h.bel.size), h.blk.below hb h.blk.lt, own_kept h.own (grown_of_below hb none) fun _ _ e => by cases e⟩
theorem TW.app {w3 wr w2 : World} {kd : Int} {nm : ByteArray} {sg : Bool} {v v' : Value} {l : List (ByteArray × ByteArray)} {a : ByteArray × ByteArray} {o : Obj} (h : TW w3 wr kd nm sg v l)
    (ho : w2.ownsRow (w3.heap.size + 1) 38 2 v' (l.length + 1) (atCells l ++ [.string a.1, .string a.2])) (hg : (wr.alloc o).grownBy w2 v.ownBlock) :
    TW w3 (w2.setCell ⟨w3.heap.size, 3, none⟩ v') kd nm sg v' (l ++ [a]) := by
  have hv : ∀ g, v.ownBlock = some g → w3.heap.size + 1 ≤ g := own_ge h.own
  have hblk := (h.blk.alloc o).grown hg (fun e => by have := hv _ e.symm; omega)
  have hbel := (h.bel.alloc h.bel.size o).grown hg (by have := h.bel.size; simp; omega) (fun g e => by have := hv g e; omega)
  refine ⟨hbel.setCell (p := ⟨w3.heap.size, 3, none⟩) (Nat.le_refl _) _, ?_, ?_⟩
  · have := hblk.set_ 3 v'
    simpa using this
  · show World.ownsRow _ _ _ _ _ _ _
    rw [atCells_snoc, List.length_append]
    exact own_kept ho (grown_set _ _ _ _) fun k hk e => own_blk_ne ho hblk (by decide) (hk.trans e.symm)

/-- So far no quotation mark. -/
def noQ (s : ByteArray) (k : Nat) : Prop := ∀ j, j < k → byt s j ≠ 34
def QRel (rc r1 : Bool) (s : ByteArray) (k : Nat) : Prop := rc = true ↔ r1 = true ∧ noQ s k
theorem noQ_end {s : ByteArray} {k : Nat} (hk : k = s.size) : noQ s k ↔ quoteB s = false := by
  subst hk
  constructor
  · intro h
    cases hq : quoteB s
    · rfl
    · obtain ⟨i, hi, he⟩ := (quoteB_iff s).1 hq
      exact absurd he (h i hi)
  · intro h j hj he
    have := (quoteB_iff s).2 ⟨j, hj, he⟩
    rw [h] at this
    cases this
theorem noQ_yes {s : ByteArray} {k : Nat} (h : noQ s k) (hc : byt s k ≠ 34) : noQ s (k + 1) := fun j hj => by
  by_cases e : j = k
  · rw [e]; exact hc
  · exact h j (by omega)
theorem noQ_no {s : ByteArray} {k : Nat} (hc : byt s k = 34) : ¬ noQ s (k + 1) := fun h => h k (Nat.lt_succ_self k) hc

set_option maxRecDepth 100000 in
set_option maxHeartbeats 8000000 in
theorem walk (x0 x1 : Int) (x2 : ByteArray) (x3 : Option Addr) (x3Len x3Cap : Nat) (x3D : List (List Value)) (x4 x5 : Bool) (a : Option Addr) (aLen aCap : Nat) (aD : List Int) (w : World)
    (w0_0 : (Lit.int .i64 x0).wf = true) (w0_1 : (Lit.int .i64 x1).wf = true) (w0_2 : x2.size ≤ maxLen) (w0_3 : IsAggRow [.string, .string] w x3 x3Len x3Cap x3D) (w1 : IsRow .u8 w a aLen aCap aD) (hsh : w.ShapedOpen Try.prog) :
    Calls Try.prog 7 #[.agg #[.int .i64 x0, .int .i64 x1, .string x2, .slice x3 x3Len x3Cap, .bool x4, .bool x5], .slice a aLen aCap] w fun e w' => e = .returned (.bool true) ∧ Below w.heap.size w w' := by
  obtain ⟨m, hml⟩ := Try.laysM185.s1_3 w hsh
  have hml : w.cell? ⟨0, 0, none⟩ = some (.int .i64 m) := hml
  obtain ⟨s, hs⟩ := ba_of w1
  obtain ⟨l, hL, hrow⟩ := at_of_agg w0_3
  have hb1 := (Below.refl w.heap.size w).alloc (Nat.le_refl _) (.cells #[.int .i64 x0, .int .i64 x1, .string x2, .slice x3 x3Len x3Cap, .bool x4, .bool x5] 31)
  have hr1 := Blk.new w 31 #[.int .i64 x0, .int .i64 x1, .string x2, .slice x3 x3Len x3Cap, .bool x4, .bool x5]
  have haw := fun (W : World) (hb : Below w.heap.size w W) => awake_any m W ((hb.cell (p := ⟨0, 0, none⟩) (World.block_lt_of_cell? _ _ hml)).trans hml)
  have h0l : 0 < w.heap.size := World.block_lt_of_cell? _ _ hml
  have HML := hid hml
  have HAW := hid haw
  have HS := hid hs
  have HROW := hid hrow
  have HL := hid hL
  clear w0_0 w0_1 w0_2 w0_3 w1 hsh hml haw hs hrow hL
  have c0 := hr1.cell 0
  have c2 := hr1.cell 2
  have c3 := hr1.cell 3
  have c4 := hr1.cell 4
  simp only [List.getElem?_toArray, List.getElem?_cons_zero, List.getElem?_cons_succ] at c0 c2 c3 c4
  have HB1 := hid hb1
  have HR1 := hid hr1
  clear hb1 hr1
  by_cases hbig : 8 < x3Len ∨ 60 < x2.size ∨ 60 < aLen
  · have hcases : (8 : Int) < (x3Len : Int) ∨ ¬ (8 : Int) < (x3Len : Int) ∧ (60 : Int) < (x2.size : Int) ∨ ¬ (8 : Int) < (x3Len : Int) ∧ ¬ (60 : Int) < (x2.size : Int) ∧ (60 : Int) < (aLen : Int) := by omega
    clear hbig
    rcases hcases with h1 | ⟨h1, h2⟩ | ⟨h1, h2, h3⟩
    all_goals
      go_enter Try.func7, Try.ntmps7
      go_upto_region 1 with fail
      generalize w.alloc (.cells #[.int .i64 x0, .int .i64 x1, .string x2, .slice x3 x3Len x3Cap, .bool x4, .bool x5] 31) = w1 at *
      go_wp2_with fail
      refine (HAW.out w1 HB1.out).mono ?_
      rintro e w3 ⟨rfl, hb3⟩
      go_wp2_with fail
      go_ret
      exact ⟨rfl, HB1.out.trans (hb3.mono HB1.out.size)⟩
  have hbig1 : ¬ (8 : Int) < (x3Len : Int) := by omega
  have hbig2 : ¬ (60 : Int) < (x2.size : Int) := by omega
  have hbig3 : ¬ (60 : Int) < (aLen : Int) := by omega
  clear hbig
  go_enter Try.func7, Try.ntmps7
  go_upto_region 1 with fail
  generalize w.alloc (.cells #[.int .i64 x0, .int .i64 x1, .string x2, .slice x3 x3Len x3Cap, .bool x4, .bool x5] 31) = w1 at *
  go_wp2_with fail
  refine (HAW.out w1 HB1.out).mono ?_
  rintro e w3 ⟨rfl, hb3⟩
  have hr3 := HR1.out.below hb3 HR1.out.lt
  have d0 := hr3.cell 0
  have d2 := hr3.cell 2
  have d3 := hr3.cell 3
  have d4 := hr3.cell 4
  simp only [List.getElem?_toArray, List.getElem?_cons_zero, List.getElem?_cons_succ] at d0 d2 d3 d4
  have HR3 := hid hr3
  have HB3 := hid (HB1.out.trans (hb3.mono HB1.out.size))
  clear hr3 hb3 c0 c2 c3 c4 HAW
  go_upto_region 4 with fail
  have htw0 : TW w3 (w3.alloc (.cells #[.int .i64 x0, .int .i64 0, .string x2, .slice none 0 0, .bool x4, .bool false] 26)) x0 x2 x4 (.slice none 0 0) [] := ⟨(Below.refl _ _).alloc (Nat.le_refl _) _, Blk.new w3 _ _, rfl, .inl ⟨rfl, rfl⟩⟩
  have e0 := (htw0.bel.cell (p := ⟨w.heap.size, 0, none⟩) HR3.out.lt).trans d0
  have e2 := (htw0.bel.cell (p := ⟨w.heap.size, 2, none⟩) HR3.out.lt).trans d2
  have e3 := (htw0.bel.cell (p := ⟨w.heap.size, 3, none⟩) HR3.out.lt).trans d3
  generalize w3.alloc (.cells #[.int .i64 x0, .int .i64 0, .string x2, .slice none 0 0, .bool x4, .bool false] 26) = w5 at *
  have HTW0 := hid htw0
  have hpl := fun W => lawplain_any x2 (by omega) W
  have HPL := hid hpl
  clear htw0 hpl d0 d2 d3
  obtain ⟨r0, hr0⟩ : ∃ r0, r0 = (decide (x0 = 0 ∨ x0 = 1) && plainB x2) := ⟨_, rfl⟩
  have HR0 := hid hr0
  clear hr0
  go_cut [6] (fun s6 wx => s6 = .bool r0 ∧ wx = w5)
  case first =>
    by_cases h0 : x0 = 0
    · subst h0
      cases hp : plainB x2
      · have hpl := HPL.out
        rw [hp] at hpl
        have HP2 := hid hpl
        have HD := hid (show r0 = false by rw [HR0.out, hp]; simp)
        clear hpl hp
        go_wp2_with fail
        refine (HP2.out _).mono ?_
        rintro e w6 ⟨rfl, hw⟩
        obtain rfl : w5 = w6 := hw.symm
        go_wp2_with fail
        go_meet
        rw [HD.out]
        exact ⟨rfl, rfl⟩
      · have hpl := HPL.out
        rw [hp] at hpl
        have HP2 := hid hpl
        have HD := hid (show r0 = true by rw [HR0.out, hp]; simp)
        clear hpl hp
        go_wp2_with fail
        refine (HP2.out _).mono ?_
        rintro e w6 ⟨rfl, hw⟩
        obtain rfl : w5 = w6 := hw.symm
        go_wp2_with fail
        go_meet
        rw [HD.out]
        exact ⟨rfl, rfl⟩
    · have h0b : (x0 == 0) = false := by simpa using h0
      by_cases h1 : x0 = 1
      · subst h1
        cases hp : plainB x2
        · have hpl := HPL.out
          rw [hp] at hpl
          have HP2 := hid hpl
          have HD := hid (show r0 = false by rw [HR0.out, hp]; simp)
          clear hpl hp
          go_wp2_with fail
          refine (HP2.out _).mono ?_
          rintro e w6 ⟨rfl, hw⟩
          obtain rfl : w5 = w6 := hw.symm
          go_wp2_with fail
          go_meet
          rw [HD.out]
          exact ⟨rfl, rfl⟩
        · have hpl := HPL.out
          rw [hp] at hpl
          have HP2 := hid hpl
          have HD := hid (show r0 = true by rw [HR0.out, hp]; simp)
          clear hpl hp
          go_wp2_with fail
          refine (HP2.out _).mono ?_
          rintro e w6 ⟨rfl, hw⟩
          obtain rfl : w5 = w6 := hw.symm
          go_wp2_with fail
          go_meet
          rw [HD.out]
          exact ⟨rfl, rfl⟩
      · have h1b : (x0 == 1) = false := by simpa using h1
        have HD := hid (show r0 = false by rw [HR0.out]; simp [h0, h1])
        go_wp2_with fail
        go_meet
        rw [HD.out]
        exact ⟨rfl, rfl⟩
  case rest =>
    obtain ⟨rfl, hw⟩ := hcut
    obtain rfl : w5 = wc := hw.symm
    clear HPL e0 e2
    go_wp2_with fail
    obtain ⟨i0, hi0, hz0, hz1, hz2⟩ := info_parts info_attr
    have hx5 : w.heap.size < w3.heap.size := HR3.out.lt
    go_loopg [6, 7] x3Len (fun kx s6 s7 wr => ∃ (i : Nat) (rb : Bool) (v : Value), s6 = .bool rb ∧ s7 = .int .i64 i ∧ i ≤ x3Len ∧ x3Len - i ≤ kx ∧ Hid (rb = (r0 && (l.take i).all goodA)) ∧ Hid (∀ a ∈ l.take i, a.1.size ≤ 60 ∧ a.2.size ≤ 60) ∧ Hid (TW w3 wr x0 x2 x4 v (l.take i)))
    case atStart => exact ⟨0, r0, .slice none 0 0, rfl, rfl, Nat.zero_le _, by omega, by show _ = _; simp, fun a h => by simp at h, HTW0.out⟩
    case round =>
      obtain ⟨i, rb, v, rfl, rfl, hi, hk, HRB, HSZ, HTW⟩ := hrel
      have f3 := (HTW.out.bel.cell (p := ⟨w.heap.size, 3, none⟩) hx5).trans ((HTW0.out.bel.cell (p := ⟨w.heap.size, 3, none⟩) hx5).symm.trans e3)
      by_cases hlt : i < x3Len
      · have hlt' : (i : Int) < (x3Len : Int) := by omega
        obtain ⟨A', c', hA', _, hrr⟩ := HROW.out
        injection hA' with hA1 hA2 hA3
        clear hA2 hA3
        subst hA1
        obtain ⟨b, off, rfl, hbl, hcell⟩ := hrr (by have := HL.out; omega)
        have hil : i < l.length := by have := HL.out; omega
        have hai : l[i]? = some l[i] := List.getElem?_eq_getElem hil
        obtain ⟨n1, v1⟩ := hcell i _ hai
        have hbw : Below w.heap.size w wr := HB3.out.trans (HTW.out.bel.mono HB3.out.size)
        have g1 := (hbw.cell (p := ⟨b, _, none⟩) hbl).trans n1
        have g2 := (hbw.cell (p := ⟨b, _, none⟩) hbl).trans v1
        have hta : l.take (i + 1) = l.take i ++ [l[i]] := by rw [List.take_add_one, hai]; rfl
        have htl : (l.take i).length = i := by rw [List.length_take]; omega
        generalize l[i] = at_ at *
        have hi1 : (i : Int) + 1 ≤ 9223372036854775807 := by omega
        have HTA := hid hta
        have HTL := hid htl
        have HBW := hid hbw
        have HIL := hid hil
        have HK := hid hk
        have HI1 := hid hi1
        clear hcell hrr n1 v1 hai hta htl hbw hil hk hi1
        obtain ⟨an, av⟩ := at_
        simp only at g1 g2
        have hbx := (Below.refl wr.heap.size wr).alloc (Nat.le_refl _) (.cells #[.string an, .string av] 43)
        have hrx := Blk.new wr 43 #[.string an, .string av]
        have hzx : (wr.alloc (.cells #[.string an, .string av] 43)).heap.size = wr.heap.size + 1 := by simp
        have k0 := hrx.cell 0
        have k1 := hrx.cell 1
        simp only [List.getElem?_toArray, List.getElem?_cons_zero, List.getElem?_cons_succ] at k0 k1
        have HBX := hid hbx
        have HRX := hid hrx
        have HZX := hid hzx
        clear hbx hrx hzx
        go_upto_region 9 with fail
        generalize wr.alloc (.cells #[.string an, .string av] 43) = wb at *
        by_cases hs1 : 60 < an.size
        · have hs1' : (60 : Int) < (an.size : Int) := by omega
          go_wp2_with fail
          go_ret
          exact ⟨rfl, HBW.out.trans (HBX.out.mono HBW.out.size)⟩
        have hs1' : ¬ (60 : Int) < (an.size : Int) := by omega
        by_cases hs2 : 60 < av.size
        · have hs2' : (60 : Int) < (av.size : Int) := by omega
          go_wp2_with fail
          go_ret
          exact ⟨rfl, HBW.out.trans (HBX.out.mono HBW.out.size)⟩
        have hs2' : ¬ (60 : Int) < (av.size : Int) := by omega
        have htw6 := HTW.out.grow HBX.out
        have t3 := htw6.blk.cell 3
        simp only [List.getElem?_toArray, List.getElem?_cons_zero, List.getElem?_cons_succ] at t3
        have hown6 := htw6.own
        rw [HTL.out] at hown6
        obtain ⟨A0, cp0, rfl⟩ := owns_slice hown6
        have HOWN6 := hid hown6
        clear hown6
        have HTW6 := hid htw6
        clear htw6
        go_upto_region 12 with (at_builtin; go_must (refine wpList_append_any _ rfl (.tmp 77) (.tmp 83) 24 rfl (w3.heap.size + 1) 38 i0 (.agg #[.string ⟨#[]⟩, .string ⟨#[]⟩]) 2 32 Try.underlying24 hi0 hz0 hz1 hz2 rfl (by decide) _ i (atCells (l.take i)) rfl (HOWN6.out.alloc _) _ (some ⟨wb.heap.size, 0, none⟩) 1 1 [.string an, .string av] rfl (reads_blk2 (Blk.new wb _ _)) (by simp [Value.oneCell']) (by unfold maxLen; omega) (by omega) (by have := HTW6.out.blk.lt; simp; omega) ?_); intro v' w2 ho2 hg2 hl2; obtain ⟨A2, c2, rfl⟩ := owns_slice ho2; have hv2 := own_ge HTW6.out.own; have hblk2 := (HTW6.out.blk.alloc _).grown hg2 (fun e => by have := hv2 _ e.symm; omega); have hbox2 := ((HRX.out.alloc _).grown hg2 (fun e => own_blk_ne HTW6.out.own HRX.out (by decide) e.symm)); have q3 := hblk2.cell 3; have frk := hblk2.frozen; simp only [List.getElem?_toArray, List.getElem?_cons_zero, List.getElem?_cons_succ] at q3; have HO2 := hid ho2; have HG2 := hid hg2; have HBOX2 := hid hbox2; clear ho2 hg2 hl2 hv2 hblk2 hbox2)
        have htw7 := HTW6.out.app (a := (an, av)) (by rw [HTL.out]; exact HO2.out) HG2.out
        have hbox7 := HBOX2.out.far (p := ⟨w3.heap.size, 3, none⟩) (by have := HTW.out.blk.lt; show wr.heap.size ≠ w3.heap.size; omega) (.slice A2 (i + 1) c2)
        rw [← HTA.out] at htw7
        have HZ7 := hid (show w.heap.size < (w2.setCell ⟨w3.heap.size, 3, none⟩ (.slice A2 (i + 1) c2)).heap.size from by have := htw7.blk.lt; omega)
        generalize w2.setCell ⟨w3.heap.size, 3, none⟩ (.slice A2 (i + 1) c2) = w7 at *
        have k0 := hbox7.cell 0
        have k1 := hbox7.cell 1
        simp only [List.getElem?_toArray, List.getElem?_cons_zero, List.getElem?_cons_succ] at k0 k1
        have HTW7 := hid htw7
        have hpl := fun W => lawplain_any an (by omega) W
        have HPL := hid hpl
        clear htw7 hbox7 hpl HO2 HG2 HBOX2 q3 frk t3 HTW6 HOWN6 HBX HRX HZX g1 g2 f3
        obtain ⟨r1, hr1⟩ : ∃ r1, r1 = (rb && plainB an) := ⟨_, rfl⟩
        have HR1b := hid hr1
        clear hr1
        go_cut [6] (fun s6 wx => s6 = .bool r1 ∧ wx = w7)
        case first =>
          cases rb
          · have HD := hid (show r1 = false by rw [HR1b.out]; rfl)
            go_wp2_with fail
            go_meet
            rw [HD.out]
            exact ⟨rfl, rfl⟩
          · have HD := hid (show r1 = plainB an by rw [HR1b.out]; rfl)
            go_wp2_with fail
            refine (HPL.out _).mono ?_
            rintro e w8 ⟨rfl, hw⟩
            obtain rfl : w7 = w8 := hw.symm
            go_wp2_with fail
            go_meet
            rw [HD.out]
            exact ⟨rfl, rfl⟩
        case rest =>
          obtain ⟨rfl, hw⟩ := hcut
          obtain rfl : w7 = wc := hw.symm
          clear HPL
          go_wp2_with fail
          clear hi0 hz0 hz1 hz2
          go_loopg [6, 9] av.size (fun kx s6 s9 wi => ∃ (k : Nat) (rc : Bool), s6 = .bool rc ∧ s9 = .int .i64 k ∧ k ≤ av.size ∧ av.size - k ≤ kx ∧ wi = w7 ∧ Hid (QRel rc r1 av k))
          case atStart => exact ⟨0, r1, rfl, rfl, Nat.zero_le _, by omega, rfl, ⟨fun h => ⟨h, fun j hj => absurd hj (Nat.not_lt_zero _)⟩, fun h => h.1⟩⟩
          case round =>
            obtain ⟨k, rc, rfl, rfl, hka, hkk, hwi, HRC⟩ := hrel
            obtain rfl : w7 = wr := hwi.symm
            by_cases hkl : k < av.size
            · have hkl' : (k : Int) < (av.size : Int) := by omega
              have hidx : ((av[k].toNat : Nat) : Int) = byt av k := by
                have := getB av k hkl
                have h0 := byt_nonneg av k
                omega
              have hk1 : (k : Int) + 1 ≤ 9223372036854775807 := by omega
              have HY := hid (fun h => noQ_yes (s := av) (k := k) h)
              have HN := hid (fun h => noQ_no (s := av) (k := k) h)
              generalize byt av k = cc at *
              cases rc
              · have HF : Hid (QRel false r1 av (k + 1)) := ⟨fun h => (by cases h), fun h => (by have := HRC.out.2 ⟨h.1, fun j hj => h.2 j (by omega)⟩; cases this)⟩
                go_wp2_with fail
                go_roundg (av.size - (k + 1))
                case measure => omega
                case rel => exact ⟨k + 1, false, rfl, rfl, by omega, Nat.le_refl _, rfl, HF⟩
              · obtain ⟨g1, g2⟩ := HRC.out.1 rfl
                have G1 := hid g1
                have G2 := hid g2
                clear g1 g2
                by_cases hc : cc = 34
                · subst hc
                  have HF : Hid (QRel false r1 av (k + 1)) := ⟨fun h => (by cases h), fun h => absurd h.2 (HN.out rfl)⟩
                  clear HRC HY HN
                  go_wp2_with fail
                  go_roundg (av.size - (k + 1))
                  case measure => omega
                  case rel => exact ⟨k + 1, false, rfl, rfl, by omega, Nat.le_refl _, rfl, HF⟩
                · have hcb : (cc != 34) = true := by simpa using hc
                  have HF : Hid (QRel true r1 av (k + 1)) := ⟨fun _ => ⟨G1.out, HY.out G2.out hc⟩, fun _ => rfl⟩
                  clear HRC HY HN
                  go_wp2_with fail
                  go_roundg (av.size - (k + 1))
                  case measure => omega
                  case rel => exact ⟨k + 1, true, rfl, rfl, by omega, Nat.le_refl _, rfl, HF⟩
            · have hkl' : ¬ (k : Int) < (av.size : Int) := by omega
              have hnew : rc = (r0 && (l.take (i + 1)).all goodA) := by
                rw [HTA.out, List.all_append, show List.all [(an, av)] goodA = (plainB an && !quoteB av) by simp [goodA], ← Bool.and_assoc, ← HRB.out]
                have h1 : rc = true ↔ r1 = true ∧ noQ av k := HRC.out
                rw [HR1b.out, noQ_end (show k = av.size by omega)] at h1
                generalize plainB an = p1 at *
                generalize quoteB av = q1 at *
                revert h1
                cases rc <;> cases rb <;> cases p1 <;> cases q1 <;> decide
              have hszn : ∀ a ∈ l.take (i + 1), a.1.size ≤ 60 ∧ a.2.size ≤ 60 := fun a ha => by
                rw [HTA.out] at ha
                rcases List.mem_append.1 ha with h2 | h2
                · exact HSZ.out a h2
                · rw [List.mem_singleton.1 h2]; exact ⟨by show an.size ≤ 60; omega, by show av.size ≤ 60; omega⟩
              have HNEW := hid hnew
              have HSZN := hid hszn
              have hi1' := HI1.out
              clear hnew hszn
              go_wp2_with fail
              go_roundg (x3Len - (i + 1))
              case measure => have := HK.out; omega
              case rel => exact ⟨i + 1, rc, _, rfl, rfl, by omega, Nat.le_refl _, HNEW, HSZN, HTW7⟩
      · have hlt' : ¬ (i : Int) < (x3Len : Int) := by omega
        have htk : l.take i = l := List.take_of_length_le (by have := HL.out; omega)
        rw [htk] at HTW HSZ HRB
        have hrow := AtRow.of_own HTW.out.own
        have ho := HTW.out.own
        obtain ⟨A0, cp0, rfl⟩ := owns_slice ho
        have t0 := HTW.out.blk.cell 0
        have t1 := HTW.out.blk.cell 1
        have t2 := HTW.out.blk.cell 2
        have t3 := HTW.out.blk.cell 3
        have t4 := HTW.out.blk.cell 4
        have t5 := HTW.out.blk.cell 5
        simp only [List.getElem?_toArray, List.getElem?_cons_zero, List.getElem?_cons_succ] at t0 t1 t2 t3 t4 t5
        have hwrite := tagwrite_any ⟨x0, 0, x2, l, x4, false⟩ _ wr hrow (by have := HL.out; show l.length ≤ 8; omega) (by show x2.size ≤ 60; omega) HSZ.out
        have hgm : goodM ⟨x0, 0, x2, l, x4, false⟩ = rb := by unfold goodM; rw [HRB.out, HR0.out]
        have HWB := hid (fun h => writeV_bad (M := ⟨x0, 0, x2, l, x4, false⟩) h)
        have HWG := hid (fun h => writeV_good (M := ⟨x0, 0, x2, l, x4, false⟩) h)
        rw [hgm] at HWB HWG
        generalize writeV ⟨x0, 0, x2, l, x4, false⟩ = out at *
        have HWR := hid hwrite
        clear hwrite ho hrow htk hgm HTW0 hlt
        have hbw : Below w.heap.size w wr := HB3.out.trans (HTW.out.bel.mono HB3.out.size)
        have HBW := hid hbw
        clear hbw
        cases rb
        · have HO := hid (HWB.out rfl)
          clear HWG
          go_wp2_with fail
          refine HWR.out.mono ?_
          rintro e w8 ⟨rfl, hb8⟩
          rw [HO.out]
          go_wp2_with fail
          go_ret
          exact ⟨rfl, HBW.out.trans (hb8.mono HBW.out.size)⟩
        · have hgood : (decide (x0 = 0 ∨ x0 = 1) && plainB x2) = true ∧ l.all goodA = true := by
            have := HRB.out
            rw [HR0.out] at this
            simpa using this.symm
          have hk0 : x0 = 0 ∨ x0 = 1 := by
            have := hgood.1
            rw [Bool.and_eq_true, decide_eq_true_eq] at this
            exact this.1
          have hpn : PlainP x2 := by
            have := hgood.1
            rw [Bool.and_eq_true, decide_eq_true_eq] at this
            exact plainB_iff.1 this.2
          have hpa : ∀ a ∈ l, PlainP a.1 ∧ quoteB a.2 = false := fun a ha => by
            have := List.all_eq_true.1 hgood.2 a ha
            unfold goodA at this
            rw [Bool.and_eq_true, Bool.not_eq_true'] at this
            exact ⟨plainB_iff.1 this.1, this.2⟩
          have hout : out = writeW x0 x2 l x4 := HWG.out rfl
          have hread := write_read x0 hk0 x2 l x4 s hpn hpa
          rw [← hout] at hread
          have hsz1 : 2 < out.size ∧ out.size ≤ 100000 := by
            have h1 := bodyW_size l HSZ.out (headW x0 x2)
            have h2 := headW_size x0 x2
            have h3 := (bodyW_pre l (headW x0 x2)).1
            have h4 : 1 + x2.size ≤ (headW x0 x2).size := by
              unfold headW
              rw [ByteArray.size_append, ByteArray.size_append, show (⟨#[60]⟩ : ByteArray).size = 1 from rfl]
              omega
            have h5 := hpn.1
            have h6 : l.length * 124 ≤ 8 * 124 := Nat.mul_le_mul_right _ (by have := HL.out; omega)
            rw [hout]
            unfold writeW singleW
            split <;> simp only [ByteArray.size_append, show (⟨#[32, 47]⟩ : ByteArray).size = 2 from rfl, show (⟨#[62]⟩ : ByteArray).size = 1 from rfl] <;> omega
          have HREAD := hid hread
          have hs2a := hsz1.1
          have hs2b := hsz1.2
          have hs2i : (2 : Int) < (out.size : Int) := by omega
          clear hgood hk0 hpn hpa hout hread hsz1 HWG HWB HRB HSZ
          go_wp2_with fail
          refine HWR.out.mono ?_
          rintro e w8 ⟨rfl, hb8⟩
          have HX8 := hid (HTW.out.bel.trans (hb8.mono HTW.out.bel.size))
          have HB8 := hid (HBW.out.trans (hb8.mono HBW.out.size))
          clear hb8 t0 t1 t2 t3 t4 t5 f3 HWR
          have hcv := Lib.run_convert_string_bytes (P := Try.prog) w8 9 22 5 out Try.underlying9 Try.underlying22 Try.underlying5
          have hba8 := (HS.out.below HB8.out (Nat.le_refl _)).below (bytesWorld_below w8 5 out) (Nat.le_refl _)
          have HBA8 := hid hba8
          have hone : ¬ out.toList = [] := fun h => by
            have h2 : out.data.toList = [] := by rw [← Lib.toList_data]; exact h
            have : out.size = 0 := by show out.data.size = 0; rw [← Array.length_toList, h2]; rfl
            omega
          clear hba8
          go_wp2_with (at_builtin; go_must (refine wpList_append_conv rfl (.tmp 115) (.tmp 116) rfl w8 out s rfl a aLen aCap rfl HBA8.out (by omega) (by omega) ?_); intro A9 c9 w9 hba9 hb9; have HBA9 := hid hba9; have HB9 := hid hb9; clear hba9 hb9)
          have hBB9 := HB8.out.trans (HB9.out.mono HB8.out.size)
          have hm9 : w9.cell? ⟨0, 0, none⟩ = some (.int .i64 m) := (hBB9.cell (p := ⟨0, 0, none⟩) h0l).trans HML.out
          refine (read_any w9 A9 (out.size + aLen) c9 0 m (out ++ s) HBA9.out.1 HBA9.out.2.2.2 HBA9.out.2.1 HBA9.out.2.2.1 (by omega) (by decide) hm9).mono ?_
          rintro e w10 ⟨v10, rfl, hb10, ho10⟩
          rw [HREAD.out] at ho10 ⊢
          simp only [Mk.val]
          simp only at ho10
          have hrow10 := AtRow.of_own ho10
          obtain ⟨A10, c10, rfl⟩ := owns_slice ho10
          have hX10 := (HX8.out.trans (HB9.out.mono HX8.out.size)).trans (hb10.mono (by have := HX8.out.size; have := HB9.out.size; omega))
          have hB10 := hBB9.trans (hb10.mono hBB9.size)
          have HX10 := hid hX10
          have HB10 := hid hB10
          have HROW10 := hid hrow10
          clear ho10 hb10 hm9 hBB9 hX10 hB10 hrow10 HBA9 HBA8 hcv
          go_upto_region 21 with fail
          have hb11 := (Below.refl w10.heap.size w10).alloc (Nat.le_refl _) (.cells #[.int .i64 x0, .int .i64 out.size, .string x2, .slice A10 l.length c10, .bool x4, .bool true] 26)
          have hr11 := Blk.new w10 26 #[.int .i64 x0, .int .i64 out.size, .string x2, .slice A10 l.length c10, .bool x4, .bool true]
          generalize w10.alloc (.cells #[.int .i64 x0, .int .i64 out.size, .string x2, .slice A10 l.length c10, .bool x4, .bool true] 26) = w11 at *
          have hX11 := HX10.out.trans (hb11.mono HX10.out.size)
          have hx11 := HR3.out.below hX11 hx5
          have d0 := hx11.cell 0
          have d2 := hx11.cell 2
          have d3 := hx11.cell 3
          have d4' := hx11.cell 4
          simp only [List.getElem?_toArray, List.getElem?_cons_zero, List.getElem?_cons_succ] at d0 d2 d3 d4'
          have HB11 := hid (HB10.out.trans (hb11.mono HB10.out.size))
          have HR11 := hid hr11
          have HROW11 := hid (HROW10.out.below hb11)
          have hz11 := hb11.size
          have HZ11 := hid hz11
          clear hb11 hr11 hX11 hx11 hz11 d4
          go_upto_region 22 with fail
          have hb12 := (Below.refl w11.heap.size w11).alloc (Nat.le_refl _) (.cells #[.int .i64 x0, .int .i64 out.size, .string x2, .slice x3 x3Len x3Cap, .bool x4, .bool true] 31)
          have hr12 := Blk.new w11 31 #[.int .i64 x0, .int .i64 out.size, .string x2, .slice x3 x3Len x3Cap, .bool x4, .bool true]
          generalize w11.alloc (.cells #[.int .i64 x0, .int .i64 out.size, .string x2, .slice x3 x3Len x3Cap, .bool x4, .bool true] 31) = w12 at *
          have hq12 := HR11.out.below hb12 HR11.out.lt
          have k0 := hr12.cell 0
          have k1 := hr12.cell 1
          have k2 := hr12.cell 2
          have k3 := hr12.cell 3
          have k4 := hr12.cell 4
          have k5 := hr12.cell 5
          have q0 := hq12.cell 0
          have q1 := hq12.cell 1
          have q2 := hq12.cell 2
          have q3 := hq12.cell 3
          have q4 := hq12.cell 4
          have q5 := hq12.cell 5
          simp only [List.getElem?_toArray, List.getElem?_cons_zero, List.getElem?_cons_succ] at k0 k1 k2 k3 k4 k5 q0 q1 q2 q3 q4 q5
          have HB12 := hid (HB11.out.trans (hb12.mono HB11.out.size))
          have HROW12 := hid (HROW11.out.below hb12)
          have hxr := HROW.out.below HB12.out
          rw [show x3Len = l.length from HL.out.symm] at hxr
          have hal := alike_any ⟨x0, out.size, x2, l, x4, true⟩ (.slice A10 l.length c10) (.slice x3 l.length x3Cap) w12 HROW12.out hxr (by have := HL.out; show l.length ≤ 1048576; omega)
          rw [HL.out] at hal
          simp only [Mk.val] at hal
          have HAL := hid hal
          have hll := HL.out
          clear hb12 hr12 hq12 hxr hal d0 d2 d3 d4' e3
          rw [hll] at q3
          clear hll
          go_wp2_with fail
          refine HAL.out.mono ?_
          rintro e w13 ⟨rfl, hb13⟩
          go_wp2_with fail
          go_ret
          exact ⟨rfl, HB12.out.trans (hb13.mono HB12.out.size)⟩
end Go.Proofs.Ytpkbmgpbagdalaa.tagWrites
