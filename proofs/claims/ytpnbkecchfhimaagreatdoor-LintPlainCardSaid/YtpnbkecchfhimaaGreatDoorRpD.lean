/- (*strings.Replacer).build, of the three marks: the walk. -/
import Derived.Test.YtpnbkecchfhimaaGreatDoorRpM1
import Derived.Test.YtpnbkecchfhimaaGreatDoorFdM4
namespace Go.Proofs.YtpnbkecchfhimaaGreatDoor
open Go.RowKit
open Go.Lib (hid)
set_option linter.unusedVariables false
set_option linter.unusedSimpArgs false
set_option maxRecDepth 100000

theorem nil_eq (W : World) : (binOp .eql 22 (.slice none 0 0) (.slice none 0 0)).run Tryz.prog W = .ok (.bool true) W := by kernel_rfl
/-- The table of the three replacements, at block g. -/
def RpAt (W0 W : World) (B g : Nat) : Prop := ∃ vT v62 v60 v38 : Value, RpS W0 W B g (updR (updR (updR nilR 62 v62) 60 v60) 38 v38) vT 3 [.string ⟨#[62]⟩, .string ⟨#[60]⟩, .string ⟨#[38]⟩] ∧ RpV W B g vT v62 gtR ∧ RpV W B g vT v60 ltR ∧ RpV W B g vT v38 ampR
def RpBuilt (w : World) (e : Ending) (w' : World) : Prop := ∃ g, e = .returned (.iface 250 (.pointer (some ⟨g, 0, none⟩))) ∧ RpAt w w' w.heap.size g
set_option maxHeartbeats 8000000 in
theorem rpBuild_any (q r c : Nat) (x0 x1 x2 x3 : Value) (w : World) (hq : Blk w q 147 #[x0, x1, x2, x3, .slice (some ⟨r, 0, none⟩) 6 c]) (h6 : Six w r) :
    Calls Tryz.prog 116 #[.pointer (some ⟨q, 0, none⟩)] w fun e w' => RpBuilt w e w' := by
  have z4 := hq.cell 4
  simp only [List.getElem?_toArray, List.getElem?_cons_zero, List.getElem?_cons_succ] at z4
  have HS6 := hid h6
  have y0 := h6.2 0 (by decide)
  have y1 := h6.2 1 (by decide)
  have y2 := h6.2 2 (by decide)
  have y3 := h6.2 3 (by decide)
  have y4 := h6.2 4 (by decide)
  have y5 := h6.2 5 (by decide)
  simp only [rpL, List.getElem?_cons_zero, List.getElem?_cons_succ] at y0 y1 y2 y3 y4 y5
  clear hq h6
  go_enter Tryz.func116, Tryz.ntmps116
  go_wp2_with fail
  go_loopg [4, 5] 4 (fun kx s4 s5 wr => ((s4 = .bool true ∧ s5 = .int .i64 0 ∧ 3 ≤ kx) ∨ (s4 = .bool false ∧ s5 = .int .i64 2 ∧ 2 ≤ kx) ∨ (s4 = .bool false ∧ s5 = .int .i64 4 ∧ 1 ≤ kx) ∨ (s4 = .bool false ∧ s5 = .int .i64 6)) ∧ wr = w)
  case atStart => exact ⟨.inl ⟨rfl, rfl, by omega⟩, rfl⟩
  case round =>
    obtain ⟨⟨rfl, rfl, hk⟩ | ⟨rfl, rfl, hk⟩ | ⟨rfl, rfl, hk⟩ | ⟨rfl, rfl⟩, rfl⟩ := hrel
    · go_wp2_with fail
      go_roundg 2
      case measure => omega
      case rel => exact ⟨.inr (.inl ⟨rfl, rfl, by omega⟩), rfl⟩
    · go_wp2_with fail
      go_roundg 1
      case measure => omega
      case rel => exact ⟨.inr (.inr (.inl ⟨rfl, rfl, by omega⟩)), rfl⟩
    · go_wp2_with fail
      go_roundg 0
      case measure => omega
      case rel => exact ⟨.inr (.inr (.inr ⟨rfl, rfl⟩)), rfl⟩
    · obtain ⟨i0, hi, hz0, hz1, hz2⟩ := info_parts info_str
      go_upto_region 27 with (first | (refine wpList_store_row rfl 249 (.tmp 11) (.tmp 95) rfl w7.heap.size _ rfl rfl 249 Tryz.zeroCells249 (heap_alloc_new _ _) (by rw [zc_info]; simp [zc_size]) (by simp) (zc_one _ _ _) ?_) | ((refine wpList_make_own _ rfl (.const (.int .i64 0)) (.tmp 93) 95 rfl wr.heap.size 9 i0 (.string ⟨#[]⟩) 1 Tryz.underlying95 hi hz0 hz1 .i64 .i64 _ 3 rfl rfl rfl (by rw [hz2]; decide) (by unfold maxLen; decide) (Nat.le_refl _) ?_); intro w7 ho7 hg7; have HO7 := hid ho7; have HG7 := hid hg7; clear ho7 hg7))
      have hb7 : Below wr.heap.size wr w7 := below_grown_none HG7.out
      have hs0 := RpS.start hb7 hb7.size HO7.out
      obtain ⟨w, rfl⟩ : ∃ w, w = wr := ⟨_, rfl⟩
      generalize (w7.alloc (.cells Tryz.zeroCells249 249)).setRow w7.heap.size (Tryz.zeroCells249.setIfInBounds 256 (.slice (some ⟨w.heap.size, 0, none⟩) 0 3)) = W1 at *
      generalize w7.heap.size = g at *
      have HS0 := hid hs0
      have HSX := hid (fun W (h : Below w.heap.size w W) => HS6.out.below h)
      have HCS := hid (fun (W : World) (S : ByteArray) => Lib.run_convert_string_bytes (P := Tryz.prog) W 9 22 5 S Tryz.underlying9 Tryz.underlying22 Tryz.underlying5)
      have hnn : ∀ W : World, (binOp .eql 22 (.slice none 0 0) (.slice none 0 0)).run Tryz.prog W = .ok (.bool true) W := fun W => nil_eq W
      clear hs0 hb7 y0 y1 y2 y3 y4 y5 z4 HG7 HO7
      go_wp2_with fail
      go_loopg [12] 3 (fun kx s12 wr => (∃ vT : Value, s12 = .int .i64 4 ∧ 3 ≤ kx ∧ Hid (RpS w wr w.heap.size g nilR vT 0 [])) ∨ (∃ vT v62 : Value, s12 = .int .i64 2 ∧ 2 ≤ kx ∧ Hid (RpS w wr w.heap.size g (updR nilR 62 v62) vT 1 [.string ⟨#[62]⟩]) ∧ Hid (RpV wr w.heap.size g vT v62 gtR)) ∨ (∃ vT v62 v60 : Value, s12 = .int .i64 0 ∧ 1 ≤ kx ∧ Hid (RpS w wr w.heap.size g (updR (updR nilR 62 v62) 60 v60) vT 2 [.string ⟨#[62]⟩, .string ⟨#[60]⟩]) ∧ Hid (RpV wr w.heap.size g vT v62 gtR) ∧ Hid (RpV wr w.heap.size g vT v60 ltR)) ∨ (∃ vT v62 v60 v38 : Value, s12 = .int .i64 (-2) ∧ 0 ≤ kx ∧ Hid (RpS w wr w.heap.size g (updR (updR (updR nilR 62 v62) 60 v60) 38 v38) vT 3 [.string ⟨#[62]⟩, .string ⟨#[60]⟩, .string ⟨#[38]⟩]) ∧ Hid (RpV wr w.heap.size g vT v62 gtR) ∧ Hid (RpV wr w.heap.size g vT v60 ltR) ∧ Hid (RpV wr w.heap.size g vT v38 ampR)))
      case atStart => exact .inl ⟨_, rfl, by omega, HS0.out⟩
      case round =>
        rcases hrel with ⟨vT, rfl, hk, HR⟩ | ⟨vT, v62, rfl, hk, HR, HV1⟩ | ⟨vT, v62, v60, rfl, hk, HR, HV1, HV2⟩ | ⟨vT, v62, v60, v38, rfl, hk, HR, HV1, HV2, HV3⟩
        · have hs6 := HSX.out wr HR.out.bel
          have yo := hs6.2 4 (by decide)
          have yn := hs6.2 5 (by decide)
          simp only [rpL, List.getElem?_cons_zero, List.getElem?_cons_succ] at yo yn
          have xo := HR.out.c 62 (by decide)
          have xT := HR.out.cT
          simp only [updR, nilR] at xo
          have hsw := HR.out.bel.size
          obtain ⟨AT, cT, rfl⟩ := owns_slice HR.out.row
          have hba := ba_cells wr ⟨#[62]⟩ #[.int .u8 62] 1 (0, 0) rfl (by decide) (by kernel_rfl)
          have hcv := conv_ba hba
          have hix : ((⟨#[62]⟩ : ByteArray)[0]'(by decide)).toNat = 62 := rfl
          clear hs6 hba
          have HRH := HR
          go_upto_region 29 with (at_builtin; go_must (refine wpList_append_any _ rfl (.tmp 119) (.tmp 123) 95 rfl w.heap.size 9 i0 (.string ⟨#[]⟩) 1 16 Tryz.underlying95 hi hz0 hz1 hz2 rfl (by decide) _ 0 _ rfl ((HR.out.row.alloc _).alloc _) _ _ 1 1 [.string ⟨#[62]⟩] rfl (by have hq := Blk.new (wr.alloc (.cells #[.int .u8 62] 5)) 9 #[.string ⟨#[62]⟩]; rw [World.size_alloc] at hq; exact reads_blk1 hq) (by simp [Value.oneCell']) (by unfold maxLen; omega) (by omega) (by simp; omega) ?_); intro v7 w7 ho7 hg7 hv7; obtain ⟨A7, c7, rfl⟩ := owns_slice ho7; have hg7x := grown_two hg7; have HG7 := hid hg7x; have hv7x : (Value.slice A7 1 c7).ownBlock = (Value.slice AT 0 cT).ownBlock ∨ ∃ j, (Value.slice A7 1 c7).ownBlock = some j ∧ wr.heap.size ≤ j := hv7.imp id (fun e => ⟨_, e, by simp; omega⟩); have HV7 := hid hv7x; have hne7 : (Value.slice A7 1 c7).ownBlock ≠ some g := (fun e => by rcases hv7x with h | ⟨j, h, hj⟩; exact HR.out.rg (h.symm.trans e); rw [h] at e; injection e with e; have := HR.out.gl; omega); obtain ⟨cx1, fx1⟩ := HR.out.far hg7x HR.out.rg; have hs8 := HR.out.push hg7x HR.out.rg (fun j e => (HR.out.row.lt j e).1) ho7 hne7 hsw; have HS8 := hid hs8; have hcs := HCS.out (w7.setCell ⟨g, 256, none⟩ (.slice A7 1 c7)) ⟨#[38, 103, 116, 59]⟩; obtain ⟨cx2, fx2⟩ := hs8.conv (k := 62) (by decide) ⟨#[38, 103, 116, 59]⟩; simp only [updR, nilR] at cx2; clear ho7 hg7 hv7 hv7x hne7 hs8 hg7x xT xo)
          have hs9 := HS8.out.put (k := 62) (v := .slice (some ⟨(w7.setCell ⟨g, 256, none⟩ (.slice A7 1 c7)).heap.size, 0, none⟩) 4 (grownCap (w7.setCell ⟨g, 256, none⟩ (.slice A7 1 c7)) 4 0 5)) (bytesWorld_below (w7.setCell ⟨g, 256, none⟩ (.slice A7 1 c7)) 5 ⟨#[38, 103, 116, 59]⟩) (by decide) (by rw [size_set]; have := HG7.out.size; omega)
          have hv9 := RpV.new (k := 62) HS8.out (by rw [size_set]; have := HG7.out.size; omega) ⟨#[38, 103, 116, 59]⟩ (by decide)
          rw [size_set] at hs9 hv9
          have HS9 := hid hs9
          have HV9 := hid hv9
          clear hs9 hv9 hcs cx1 cx2 fx1 fx2 yo yn
          go_wp2_with fail
          go_roundg 2
          case measure => omega
          case rel => exact .inr (.inl ⟨_, _, rfl, by omega, HS9.out, HV9.out⟩)
        · have hs6 := HSX.out wr HR.out.bel
          have yo := hs6.2 2 (by decide)
          have yn := hs6.2 3 (by decide)
          simp only [rpL, List.getElem?_cons_zero, List.getElem?_cons_succ] at yo yn
          have xo := HR.out.c 60 (by decide)
          have xT := HR.out.cT
          simp only [updR, nilR] at xo
          have hsw := HR.out.bel.size
          obtain ⟨AT, cT, rfl⟩ := owns_slice HR.out.row
          have hba := ba_cells wr ⟨#[60]⟩ #[.int .u8 60] 1 (0, 0) rfl (by decide) (by kernel_rfl)
          have hcv := conv_ba hba
          have hix : ((⟨#[60]⟩ : ByteArray)[0]'(by decide)).toNat = 60 := rfl
          clear hs6 hba
          have HRH := HR
          go_upto_region 29 with (at_builtin; go_must (refine wpList_append_any _ rfl (.tmp 119) (.tmp 123) 95 rfl w.heap.size 9 i0 (.string ⟨#[]⟩) 1 16 Tryz.underlying95 hi hz0 hz1 hz2 rfl (by decide) _ 1 _ rfl ((HR.out.row.alloc _).alloc _) _ _ 1 1 [.string ⟨#[60]⟩] rfl (by have hq := Blk.new (wr.alloc (.cells #[.int .u8 60] 5)) 9 #[.string ⟨#[60]⟩]; rw [World.size_alloc] at hq; exact reads_blk1 hq) (by simp [Value.oneCell']) (by unfold maxLen; omega) (by omega) (by simp; omega) ?_); intro v7 w7 ho7 hg7 hv7; obtain ⟨A7, c7, rfl⟩ := owns_slice ho7; have hg7x := grown_two hg7; have HG7 := hid hg7x; have hv7x : (Value.slice A7 2 c7).ownBlock = (Value.slice AT 1 cT).ownBlock ∨ ∃ j, (Value.slice A7 2 c7).ownBlock = some j ∧ wr.heap.size ≤ j := hv7.imp id (fun e => ⟨_, e, by simp; omega⟩); have HV7 := hid hv7x; have hne7 : (Value.slice A7 2 c7).ownBlock ≠ some g := (fun e => by rcases hv7x with h | ⟨j, h, hj⟩; exact HR.out.rg (h.symm.trans e); rw [h] at e; injection e with e; have := HR.out.gl; omega); obtain ⟨cx1, fx1⟩ := HR.out.far hg7x HR.out.rg; have hs8 := HR.out.push hg7x HR.out.rg (fun j e => (HR.out.row.lt j e).1) ho7 hne7 hsw; have HS8 := hid hs8; have hcs := HCS.out (w7.setCell ⟨g, 256, none⟩ (.slice A7 2 c7)) ⟨#[38, 108, 116, 59]⟩; obtain ⟨cx2, fx2⟩ := hs8.conv (k := 60) (by decide) ⟨#[38, 108, 116, 59]⟩; simp only [updR, nilR] at cx2; clear ho7 hg7 hv7 hv7x hne7 hs8 hg7x xT xo)
          have hs9 := HS8.out.put (k := 60) (v := .slice (some ⟨(w7.setCell ⟨g, 256, none⟩ (.slice A7 2 c7)).heap.size, 0, none⟩) 4 (grownCap (w7.setCell ⟨g, 256, none⟩ (.slice A7 2 c7)) 4 0 5)) (bytesWorld_below (w7.setCell ⟨g, 256, none⟩ (.slice A7 2 c7)) 5 ⟨#[38, 108, 116, 59]⟩) (by decide) (by rw [size_set]; have := HG7.out.size; omega)
          have hv9 := RpV.new (k := 60) HS8.out (by rw [size_set]; have := HG7.out.size; omega) ⟨#[38, 108, 116, 59]⟩ (by decide)
          rw [size_set] at hs9 hv9
          have HS9 := hid hs9
          have HV9 := hid hv9
          have HV1N := hid ((HV1.out.push HG7.out rfl HV7.out).put (k := 60) (u := .slice (some ⟨w7.heap.size, 0, none⟩) 4 (grownCap (w7.setCell ⟨g, 256, none⟩ (.slice A7 2 c7)) 4 0 5)) (bytesWorld_below (w7.setCell ⟨g, 256, none⟩ (.slice A7 2 c7)) 5 ⟨#[38, 108, 116, 59]⟩))
          clear hs9 hv9 hcs cx1 cx2 fx1 fx2 yo yn
          go_wp2_with fail
          go_roundg 1
          case measure => omega
          case rel => exact .inr (.inr (.inl ⟨_, v62, _, rfl, by omega, HS9.out, HV1N.out, HV9.out⟩))
        · have hs6 := HSX.out wr HR.out.bel
          have yo := hs6.2 0 (by decide)
          have yn := hs6.2 1 (by decide)
          simp only [rpL, List.getElem?_cons_zero, List.getElem?_cons_succ] at yo yn
          have xo := HR.out.c 38 (by decide)
          have xT := HR.out.cT
          simp only [updR, nilR] at xo
          have hsw := HR.out.bel.size
          obtain ⟨AT, cT, rfl⟩ := owns_slice HR.out.row
          have hba := ba_cells wr ⟨#[38]⟩ #[.int .u8 38] 1 (0, 0) rfl (by decide) (by kernel_rfl)
          have hcv := conv_ba hba
          have hix : ((⟨#[38]⟩ : ByteArray)[0]'(by decide)).toNat = 38 := rfl
          clear hs6 hba
          have HRH := HR
          go_upto_region 29 with (at_builtin; go_must (refine wpList_append_any _ rfl (.tmp 119) (.tmp 123) 95 rfl w.heap.size 9 i0 (.string ⟨#[]⟩) 1 16 Tryz.underlying95 hi hz0 hz1 hz2 rfl (by decide) _ 2 _ rfl ((HR.out.row.alloc _).alloc _) _ _ 1 1 [.string ⟨#[38]⟩] rfl (by have hq := Blk.new (wr.alloc (.cells #[.int .u8 38] 5)) 9 #[.string ⟨#[38]⟩]; rw [World.size_alloc] at hq; exact reads_blk1 hq) (by simp [Value.oneCell']) (by unfold maxLen; omega) (by omega) (by simp; omega) ?_); intro v7 w7 ho7 hg7 hv7; obtain ⟨A7, c7, rfl⟩ := owns_slice ho7; have hg7x := grown_two hg7; have HG7 := hid hg7x; have hv7x : (Value.slice A7 3 c7).ownBlock = (Value.slice AT 2 cT).ownBlock ∨ ∃ j, (Value.slice A7 3 c7).ownBlock = some j ∧ wr.heap.size ≤ j := hv7.imp id (fun e => ⟨_, e, by simp; omega⟩); have HV7 := hid hv7x; have hne7 : (Value.slice A7 3 c7).ownBlock ≠ some g := (fun e => by rcases hv7x with h | ⟨j, h, hj⟩; exact HR.out.rg (h.symm.trans e); rw [h] at e; injection e with e; have := HR.out.gl; omega); obtain ⟨cx1, fx1⟩ := HR.out.far hg7x HR.out.rg; have hs8 := HR.out.push hg7x HR.out.rg (fun j e => (HR.out.row.lt j e).1) ho7 hne7 hsw; have HS8 := hid hs8; have hcs := HCS.out (w7.setCell ⟨g, 256, none⟩ (.slice A7 3 c7)) ⟨#[38, 97, 109, 112, 59]⟩; obtain ⟨cx2, fx2⟩ := hs8.conv (k := 38) (by decide) ⟨#[38, 97, 109, 112, 59]⟩; simp only [updR, nilR] at cx2; clear ho7 hg7 hv7 hv7x hne7 hs8 hg7x xT xo)
          have hs9 := HS8.out.put (k := 38) (v := .slice (some ⟨(w7.setCell ⟨g, 256, none⟩ (.slice A7 3 c7)).heap.size, 0, none⟩) 5 (grownCap (w7.setCell ⟨g, 256, none⟩ (.slice A7 3 c7)) 5 0 5)) (bytesWorld_below (w7.setCell ⟨g, 256, none⟩ (.slice A7 3 c7)) 5 ⟨#[38, 97, 109, 112, 59]⟩) (by decide) (by rw [size_set]; have := HG7.out.size; omega)
          have hv9 := RpV.new (k := 38) HS8.out (by rw [size_set]; have := HG7.out.size; omega) ⟨#[38, 97, 109, 112, 59]⟩ (by decide)
          rw [size_set] at hs9 hv9
          have HS9 := hid hs9
          have HV9 := hid hv9
          have HV1N := hid ((HV1.out.push HG7.out rfl HV7.out).put (k := 38) (u := .slice (some ⟨w7.heap.size, 0, none⟩) 5 (grownCap (w7.setCell ⟨g, 256, none⟩ (.slice A7 3 c7)) 5 0 5)) (bytesWorld_below (w7.setCell ⟨g, 256, none⟩ (.slice A7 3 c7)) 5 ⟨#[38, 97, 109, 112, 59]⟩))
          have HV2N := hid ((HV2.out.push HG7.out rfl HV7.out).put (k := 38) (u := .slice (some ⟨w7.heap.size, 0, none⟩) 5 (grownCap (w7.setCell ⟨g, 256, none⟩ (.slice A7 3 c7)) 5 0 5)) (bytesWorld_below (w7.setCell ⟨g, 256, none⟩ (.slice A7 3 c7)) 5 ⟨#[38, 97, 109, 112, 59]⟩))
          clear hs9 hv9 hcs cx1 cx2 fx1 fx2 yo yn
          go_wp2_with fail
          go_roundg 0
          case measure => omega
          case rel => exact .inr (.inr (.inr ⟨_, v62, v60, _, rfl, by omega, HS9.out, HV1N.out, HV2N.out, HV9.out⟩))
        · go_wp2_with fail
          go_ret
          exact ⟨g, rfl, vT, v62, v60, v38, HR.out, HV1.out, HV2.out, HV3.out⟩
end Go.Proofs.YtpnbkecchfhimaaGreatDoor
