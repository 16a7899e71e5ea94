/- Chapter 30: the document's example: the walk. -/
import Derived.Test.YtpnbkecchfhimaaGreatDoorLiV3
import Derived.Test.YtpnbkecchfhimaaGreatDoorFdM4
namespace Go.Proofs.YtpnbkecchfhimaaGreatDoor
open Go.RowKit Go.Shelf
open Go.Lib (hid)
set_option linter.unusedVariables false
set_option linter.unusedSimpArgs false
set_option maxRecDepth 100000

def awS : ByteArray := ⟨#[97, 60, 98, 62, 38]⟩
def awSC : Array Value := #[.int .u8 97, .int .u8 60, .int .u8 98, .int .u8 62, .int .u8 38]
theorem awS_cells : awSC = awS.data.map fun b => Value.int .u8 b.toNat := by kernel_rfl
theorem awS_fin : finL awS = ⟨updO (fun _ => []) ⟨#[98]⟩ [1], [⟨2, 4⟩]⟩ := by kernel_rfl
theorem awS_found {l : List Fg} (h : FoundL awS l) : l = [⟨5, 1⟩, ⟨2, 4⟩] := by
  refine rising_unique h.pw (by simp) fun f => (h.mem f).trans ?_
  unfold memL
  rw [awS_fin]
  obtain ⟨k, a⟩ := f
  constructor
  · rintro (h1 | ⟨h5, n, h1⟩)
    · rw [List.mem_singleton.1 h1]; simp
    · have h5 : k = 5 := h5
      have h1 : a ∈ updO (fun _ => []) ⟨#[98]⟩ [1] n := h1
      unfold updO at h1
      split at h1
      · rw [h5, List.mem_singleton.1 h1]; simp
      · cases h1
  · intro h1
    rcases List.mem_cons.1 h1 with h1 | h1
    · injection h1 with e1 e2
      subst e1 e2
      exact .inr ⟨rfl, ⟨#[98]⟩, by show (1 : Int) ∈ updO (fun _ => []) ⟨#[98]⟩ [1] ⟨#[98]⟩; unfold updO; rw [if_pos rfl]; simp⟩
    · exact .inl h1
theorem awL_p0 : lpB 5 1 = ⟨#[111, 112, 101, 110, 32, 49]⟩ := by
  have e0 := itoa_dig (k := 1) (by decide)
  unfold lpB
  rw [if_neg (by decide), show (1 : Int) = ((1 : Nat) : Int) from rfl, e0]
  rfl
theorem awL_p1 : lpB 2 4 = ⟨#[98, 97, 114, 101, 32, 52]⟩ := by
  have e0 := itoa_dig (k := 4) (by decide)
  unfold lpB
  rw [if_neg (by decide), show (4 : Int) = ((4 : Nat) : Int) from rfl, e0]
  rfl
set_option maxHeartbeats 8000000 in
theorem liawake_any (w : World) (hmx : Mx w) (hts : TabSp w) : Calls Tryz.prog 22 #[] w fun e w' => e = .returned (.bool true) ∧ Below w.heap.size w w' := by
  have kc := Lib.run_convert_bytes_const (P := Tryz.prog) w 22 5 awSC 5 5 Tryz.underlying22 Tryz.underlying5
  simp only [awSC, List.size_toArray, List.length_cons, List.length_nil, Nat.reduceAdd] at kc
  have hb1 := (Below.refl w.heap.size w).alloc (Nat.le_refl _) (.cells awSC 5 (5, 6))
  have hba := ba_cells w awS awSC 5 (5, 6) rfl (by decide) awS_cells
  have HFD := hid (lintFind_any (some ⟨w.heap.size, 0, none⟩) 5 5 awS _ hba (hmx.below hb1 (Nat.le_refl _)) (hts.below hb1 (Nat.le_refl _)) (by decide))
  have HP0 := hid (fun W => lintPrint_any 5 1 W (by rw [show (1 : Int) = ((1 : Nat) : Int) from rfl, itoa_dig (by decide)]; decide) (fun W _ => itoa_small (k := 1) (by decide) W))
  have HP1 := hid (fun W => lintPrint_any 2 4 W (by rw [show (4 : Int) = ((4 : Nat) : Int) from rfl, itoa_dig (by decide)]; decide) (fun W _ => itoa_small (k := 4) (by decide) W))
  rw [awL_p0] at HP0
  rw [awL_p1] at HP1
  have HB1 := hid hb1
  clear hba hb1 hmx hts
  unfold awSC at HFD HB1
  go_enter Tryz.func22, Tryz.ntmps22
  go_wp2_with fail
  refine HFD.out.mono ?_
  rintro e w2 ⟨A, c, l, rfl, hfl, hfr, hb2⟩
  obtain rfl := awS_found hfl
  have HB2 := hid (HB1.out.trans (hb2.mono HB1.out.size))
  have HFR := hid (fun W (h : Below w2.heap.size w2 W) => hfr.below h (Nat.le_refl _))
  obtain ⟨g, rfl, hgl, z0, z1⟩ := hfr.at_ (j := 0) (by decide)
  simp only [List.getElem_cons_zero, Nat.zero_mul, Nat.zero_add] at z0 z1
  simp only [List.length_cons, List.length_nil, Nat.zero_add, Nat.reduceAdd] at *
  clear kc hfl hfr hb2
  go_wp2_with fail
  refine (HP0.out _).mono ?_
  rintro e w3 ⟨rfl, hb3⟩
  have HB3 := hid hb3
  obtain ⟨g2, e2, hgl2, y0, y1⟩ := (HFR.out w3 hb3).at_ (j := 1) (by decide)
  injection e2 with e2
  injection e2 with e2
  subst e2
  simp only [List.getElem_cons_zero, List.getElem_cons_succ, Nat.one_mul, Nat.reduceAdd] at y0 y1
  clear z0 z1 hb3
  go_wp2_with fail
  refine (HP1.out _).mono ?_
  rintro e w4 ⟨rfl, hb4⟩
  have hs2 := HB2.out.size
  have HB5 := hid (HB2.out.trans ((HB3.out.trans (hb4.mono HB3.out.size)).mono hs2))
  clear y0 y1 hb4
  go_wp2_with fail
  go_ret
  exact ⟨rfl, HB5.out⟩
end Go.Proofs.YtpnbkecchfhimaaGreatDoor
