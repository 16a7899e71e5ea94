/- The walk of the law EntityOpens. -/
import Derived.Test.YtddbbgjpfdcjfaaDoorEnO
namespace Go.Proofs.YtddbbgjpfdcjfaaDoor.entityOpens
open Go.RowKit
open Go.Lib (hid)
set_option linter.unusedVariables false

theorem ba_bytes (W : World) (s : ByteArray) (hs : s.size ≤ 1000000) : BA (Lib.bytesWorld W 5 s) (some ⟨W.heap.size, 0, none⟩) s.size (grownCap W s.size 0 5) s :=
  ⟨rfl, grownCap_ge _ _ _ _, by have := grownCap_le_maxLen W s.size 0 5 (by unfold maxLen; omega); unfold maxLen at this; omega, fun hn => ⟨W.heap.size, 0, rfl, by rw [Lib.bytesWorld_size]; omega, bytesWorld_new W 5 s⟩⟩
theorem entR_pos {s : ByteArray} {i r : Int} {z : Nat} (h : entR s i = some (r, z)) : 0 < z := by
  unfold entR at h
  split at h
  · unfold entH at h
    split at h
    · cases h
    · split at h
      · obtain ⟨q, hq, he⟩ := Option.map_eq_some_iff.1 h
        simp only [Prod.mk.injEq] at he
        omega
      · simp only [Option.some.injEq, Prod.mk.injEq] at h
        omega
  · cases h

set_option maxRecDepth 100000 in
set_option maxHeartbeats 8000000 in
theorem walk (s : ByteArray) (w : World) (w0 : s.size ≤ maxLen) :
    Calls Tryd.prog 4 #[.string s] w fun e w' => e = .returned (.bool true) ∧ Below w.heap.size w w' := by
  unfold maxLen at w0
  have HAW := hid (awake_any w)
  by_cases hbig : 60 < s.size
  · have hbig' : (60 : Int) < (s.size : Int) := by omega
    go_enter Tryd.func4, Tryd.ntmps4
    go_wp2_with fail
    refine HAW.out.mono ?_
    rintro e w3 ⟨rfl, hb3⟩
    go_wp2_with fail
    go_ret
    exact ⟨rfl, hb3⟩
  have hbig' : ¬ (60 : Int) < (s.size : Int) := by omega
  have hs60 : s.size ≤ 60 := by omega
  have hopr := open_ref s
  have hro := @read_open s
  have HRF := hid (fun W => refopen_any s W (by omega))
  rw [← hopr] at HRF
  have HRD := hid (fun (W : World) => entread_any _ _ _ 0 s _ (ba_bytes W s (by omega)) (by omega) (by decide))
  have HOP := hid (fun (W : World) => entopen_any _ _ _ s _ (ba_bytes W s (by omega)) (by omega))
  have HCV := hid (fun (W : World) => Lib.run_convert_string_bytes (P := Tryd.prog) W 9 22 5 s Tryd.underlying9 Tryd.underlying22 Tryd.underlying5)
  have HBW := hid (fun (W : World) => bytesWorld_below W 5 s)
  have hsz := fun (W : World) => (bytesWorld_below W 5 s).size
  have HSZ := hid hsz
  generalize entO s = o at *
  clear hopr hsz
  go_enter Tryd.func4, Tryd.ntmps4
  go_wp2_with fail
  refine HAW.out.mono ?_
  rintro e w3 ⟨rfl, hb3⟩
  have HB3 := hid hb3
  have hcv3 := HCV.out w3
  clear hb3 HAW
  have HRD3 := hid (HRD.out w3)
  have step4 : ∀ (w4 : World), Below w3.heap.size w3 w4 → True := fun _ _ => trivial
  clear step4
  cases hq : entR s 0 with
  | none =>
    rw [hq] at HRD3
    simp only [pairV, Option.getD_none] at HRD3
    clear hro hq
    go_wp2_with fail
    refine HRD3.out.mono ?_
    rintro e w4 ⟨rfl, hb4⟩
    have HB4 := hid (HB3.out.trans (((HBW.out w3).trans (hb4.mono (HSZ.out w3))).mono HB3.out.size))
    have hcv4 := HCV.out w4
    clear hb4 hcv3
    go_wp2_with fail
    refine (HOP.out w4).mono ?_
    rintro e w5 ⟨rfl, hb5⟩
    have HB5 := hid (HB4.out.trans (((HBW.out w4).trans (hb5.mono (HSZ.out w4))).mono HB4.out.size))
    clear hb5 hcv4
    go_wp2_with fail
    refine (HRF.out w5).mono ?_
    rintro e w6 ⟨rfl, hb6⟩
    have HB6 := hid (HB5.out.trans (hb6.mono HB5.out.size))
    clear hb6
    cases o
    · go_wp2_with fail
      go_ret
      exact ⟨rfl, HB6.out⟩
    · go_wp2_with fail
      go_ret
      exact ⟨rfl, HB6.out⟩
  | some q =>
    obtain ⟨r, z⟩ := q
    have hz := entR_pos hq
    have ho := hro hq
    subst ho
    rw [hq] at HRD3
    simp only [pairV, Option.getD_some] at HRD3
    have hzb : ((z : Int) == 0) = false := by rw [beq_eq_false_iff_ne]; omega
    clear hro hq hz
    go_wp2_with fail
    refine HRD3.out.mono ?_
    rintro e w4 ⟨rfl, hb4⟩
    have HB4 := hid (HB3.out.trans (((HBW.out w3).trans (hb4.mono (HSZ.out w3))).mono HB3.out.size))
    have hcv4 := HCV.out w4
    clear hb4 hcv3
    go_wp2_with fail
    refine (HOP.out w4).mono ?_
    rintro e w5 ⟨rfl, hb5⟩
    have HB5 := hid (HB4.out.trans (((HBW.out w4).trans (hb5.mono (HSZ.out w4))).mono HB4.out.size))
    clear hb5 hcv4
    go_wp2_with fail
    refine (HRF.out w5).mono ?_
    rintro e w6 ⟨rfl, hb6⟩
    have HB6 := hid (HB5.out.trans (hb6.mono HB5.out.size))
    have hcv6 := HCV.out w6
    clear hb6
    go_wp2_with fail
    refine (HOP.out w6).mono ?_
    rintro e w7 ⟨rfl, hb7⟩
    have HB7 := hid (HB6.out.trans (((HBW.out w6).trans (hb7.mono (HSZ.out w6))).mono HB6.out.size))
    clear hb7 hcv6
    go_wp2_with fail
    go_ret
    exact ⟨rfl, HB7.out⟩
end Go.Proofs.YtddbbgjpfdcjfaaDoor.entityOpens
