/- The walk of the law AnsiStrips. -/
import Derived.Test.YtlopigkaibkblaaDoorAnAwake
import Derived.Test.YtlopigkaibkblaaDoorAnT
import Derived.Deep.RegionWith
import Derived.BigRegion
namespace Go.Proofs.YtlopigkaibkblaaDoor.ansiStrips
open Go.RowKit
open Go.Lib (hid)
set_option linter.unusedVariables false

theorem conv_nil (W : World) : (convert 22 9 (.slice none 0 0)).run Tryd.prog W = .ok (.string ⟨#[]⟩) W := by kernel_rfl
theorem conv_own {W : World} {B n : Nat} {v : Value} {t : ByteArray} (h : W.ownsRow B 5 1 v n (u8s t)) (W' : World) (hb : Below W.heap.size W W') : (convert 22 9 v).run Tryd.prog W' = .ok (.string t) W' := by
  have hl := h.1
  rw [u8s_len, Nat.mul_one] at hl
  rcases h.2 with ⟨rfl, h0⟩ | ⟨g, cap, cur, rfl, hg, hh, h1, h2, h3, h4⟩
  · have : t = ⟨#[]⟩ := by
      apply ext_byt (by show t.size = 0; omega)
      intro i hi
      omega
    rw [this]
    exact conv_nil W'
  · have hgl : g < W.heap.size := by
      rcases Nat.lt_or_ge g W.heap.size with h | h
      · exact h
      · rw [Array.getElem?_eq_none h] at hh; cases hh
    have hz : Lib.Bytes W' g 0 t := by
      apply bytes_of_byt
      intro i hi
      rw [Nat.zero_add]
      refine (hb.cell (p := ⟨g, i, none⟩) hgl).trans ?_
      have hgt := u8s_get t i hi
      rw [← h4] at hgt
      have hi2 : cur[i]? = some (.int .u8 (byt t i)) := by
        have := List.getElem?_take (l := cur.toList) (i := n * 1) (j := i)
        rw [if_pos (by omega)] at this
        rw [this] at hgt
        simpa using hgt
      simp [World.cell?, hh, hi2]
    have := Lib.run_convert_window (P := Tryd.prog) W' 22 5 9 Tryd.underlying22 Tryd.underlying5 Tryd.underlying9 g 0 t hz 0 n cap (by omega)
    rw [Nat.zero_add] at this
    rw [this, Nat.zero_add, ← hl, ext_whole]

set_option maxRecDepth 100000 in
set_option maxHeartbeats 8000000 in
theorem walk (a : Option Addr) (aLen aCap : Nat) (aD : List Int) (w : World) (w0 : IsRow .u8 w a aLen aCap aD) (hsh : w.ShapedOpen Tryd.prog)
    (pe : Value) (hev : w.cell? ⟨Tryd.laysC172_ren.g 15, 0, none⟩ = some (.iface 120 pe)) :
    Calls Tryd.prog 5 #[.slice a aLen aCap] w fun e w' => e = .returned (.bool true) ∧ Below w.heap.size w w' := by
  obtain ⟨m, hml⟩ := Tryd.laysM146.s1_3 w hsh
  have hml : w.cell? ⟨0, 0, none⟩ = some (.int .i64 m) := hml
  obtain ⟨s, hs⟩ := ba_of w0
  have haw := awake_any m _ pe w hml hev
  have HAW := hid haw
  clear w0 hsh hml hev haw
  by_cases hbig : 200 < aLen
  · have hbig' : (200 : Int) < (aLen : Int) := by omega
    clear hs
    go_enter Tryd.func5, Tryd.ntmps5
    go_wp2_with fail
    refine HAW.out.mono ?_
    rintro e w3 ⟨rfl, hb3⟩
    go_wp2_with fail
    go_ret
    exact ⟨rfl, hb3⟩
  have hbig' : ¬ (200 : Int) < (aLen : Int) := by omega
  have HS := hid hs
  have hsz := hs.1
  have HSZ := hid hsz
  clear hs hsz
  go_enter Tryd.func5, Tryd.ntmps5
  go_wp2_with fail
  refine HAW.out.mono ?_
  rintro e w3 ⟨rfl, hb3⟩
  have HB3 := hid hb3
  clear hb3 HAW
  go_wp2_with fail
  refine (strip_any a aLen aCap s w3 (HS.out.below HB3.out (Nat.le_refl _)) (by omega)).mono ?_
  rintro e w4 ⟨v4, rfl, hb4, ho4⟩
  have HB4 := hid (HB3.out.trans (hb4.mono HB3.out.size))
  have hts := stripAt_size s _ 0 (Nat.le_refl _)
  have hcl := stripAt_clean s _ 0 (Nat.le_refl _)
  have hag := strip_again s
  have hc4 := conv_own ho4
  have hba4 := BA.of_own (A := (match v4 with | .slice A _ _ => A | _ => none)) (c := (match v4 with | .slice _ _ c => c | _ => 0)) (W := w4) (B := w3.heap.size) (e := 5) (s := stripAt s 0) (n := (stripAt s 0).size) (by obtain ⟨A, c, rfl⟩ := owns_slice ho4; exact ho4)
  obtain ⟨A4, c4, rfl⟩ := owns_slice ho4
  simp only at hba4
  have href := fun (W : World) (hb : Below w4.heap.size w4 W) => refstrip_any a aLen aCap s W ((HS.out.below HB4.out (Nat.le_refl _)).below hb (by have := HB4.out.size; omega)) (by omega)
  generalize stripAt s 0 = t at *
  have hstr := fun (W : World) (hb : Below w4.heap.size w4 W) => strip_any A4 t.size c4 t W (hba4.below hb (Nat.le_refl _)) (by have := HSZ.out; omega)
  rw [hag] at hstr
  have htl : t.size ≤ 200 := by have := HSZ.out; omega
  generalize hT : t.size = T at *
  have HT := hid hT
  have HCL := hid hcl
  have HC4 := hid hc4
  have HBA4 := hid hba4
  have HREF := hid href
  have HSTR := hid hstr
  clear hT hcl hc4 hba4 href hstr hag ho4 hb4 hts
  go_wp2_with fail
  go_loopg [4] T (fun kx s4 wr => ∃ (i : Nat), s4 = .int .i64 i ∧ i ≤ T ∧ T - i ≤ kx ∧ wr = w4)
  case atStart => exact ⟨0, rfl, Nat.zero_le _, by omega, rfl⟩
  case round =>
    obtain ⟨i, rfl, hi, hg, hw⟩ := hrel
    obtain rfl : w4 = wr := hw.symm
    by_cases hlt : i < T
    · have hlt' : (i : Int) < (T : Int) := by omega
      obtain ⟨b, off, rfl, hbl, hzb⟩ := HBA4.out.2.2.2 (by omega)
      have hcell := bytes_cell hzb (i := i) (by have := HT.out; omega)
      have hne := HCL.out i hlt
      generalize byt t i = c at *
      have hnb : (c == 27) = false := by simpa using hne
      have hi1 : (i : Int) + 1 ≤ 9223372036854775807 := by omega
      clear hzb
      go_wp2_with fail
      go_roundg (T - (i + 1))
      case measure => omega
      case rel => exact ⟨i + 1, rfl, by omega, Nat.le_refl _, rfl⟩
    · have hlt' : ¬ (i : Int) < (T : Int) := by omega
      have HJ := hid (show i = T by omega)
      go_wp2_with fail
      have hbd : Below w4.heap.size w4 w4.drew := ⟨rfl, rfl, rfl, Nat.le_refl _, fun _ _ => rfl⟩
      have hA := HC4.out w4.drew hbd
      have HBD := hid hbd
      clear hbd
      clear HCL HBA4 hlt hi hg
      go_region_with (first
        | (go_at_call 14; refine (HREF.out _ HBD.out).mono ?_; rintro e w5 ⟨v5, rfl, hb5, ho5⟩; have hb45 : Below w4.heap.size w4 w5 := HBD.out.trans hb5; have hB := HC4.out w5 hb45; have hC := conv_own ho5 w5 (Below.refl _ _); obtain ⟨A5, c5, rfl⟩ := owns_slice ho5; have HB45 := hid hb45; clear hb5 hb45 ho5)
        | (go_at_call 13; refine (HSTR.out _ HB45.out).mono ?_; rintro e w6 ⟨v6, rfl, hb6, ho6⟩; have hb46 := HB45.out.trans (hb6.mono HB45.out.size); have hD := HC4.out w6 hb46; have hE := conv_own ho6 w6 (Below.refl _ _); obtain ⟨A6, c6, rfl⟩ := owns_slice ho6; have HB46 := hid hb46; clear hb6 hb46 ho6))
      all_goals
        go_wp2_with fail
        go_ret
        exact ⟨rfl, HB4.out.trans (HB46.out.mono HB4.out.size)⟩
end Go.Proofs.YtlopigkaibkblaaDoor.ansiStrips
