/- Walk of scalar.value. -/
import Derived.Test.YtbkjanlkklmleaaDoorProg
import Derived.Test.YtbkjanlkklmleaaDoorNeed
import Derived.Laws.BitsLemmas
namespace Go.Proofs.YtbkjanlkklmleaaDoor
open Go.RowKit
open Go.Lib

theorem i32_and31 {x : Int} (h₀ : 0 ≤ x) (h₁ : x ≤ 255) : bits .and .i32 x 31 = x % 32 := bits_mask .i32 31 (by decide) wraps_i32 5 (by decide) x h₀ (by omega)
theorem i32_and15 {x : Int} (h₀ : 0 ≤ x) (h₁ : x ≤ 255) : bits .and .i32 x 15 = x % 16 := bits_mask .i32 31 (by decide) wraps_i32 4 (by decide) x h₀ (by omega)
theorem i32_and7 {x : Int} (h₀ : 0 ≤ x) (h₁ : x ≤ 255) : bits .and .i32 x 7 = x % 8 := bits_mask .i32 31 (by decide) wraps_i32 3 (by decide) x h₀ (by omega)

theorem contGo_step {t : List Int} {k : Nat} {r c : Int} (h : t[k]? = some c) : contGo (t.drop k) r = contGo (t.drop (k + 1)) (r * 64 + c % 64) := by
  obtain ⟨hlt, rfl⟩ := List.getElem?_eq_some_iff.1 h
  rw [List.drop_eq_getElem_cons hlt]
  rfl

set_option maxHeartbeats 4000000 in
theorem value_any (b off cap : Nat) (zs : List Int) (w : World) (hz1 : 1 ≤ zs.length) (hz4 : zs.length ≤ 4) (hcap : zs.length ≤ cap) (hrow : BRow w b off zs) (hb : Bytes zs) :
    Calls Tryd.prog 47 #[.slice (some ⟨b, off, none⟩) zs.length cap] w fun e w' => e = .returned (.int .i32 (valueF zs)) ∧ ∃ q, w' = w.drewN q := by
  match zs, hz1, hz4, hcap, hrow, hb with
  | [c], _, _, _, hrow, hb =>
    have hc := hrow 0 (by simp)
    have hb0 := hb.get (i := 0) (by simp)
    simp at hc hb0
    clear hrow hb
    go_enter Tryd.func47, Tryd.ntmps47
    go_wp2
    go_ret
    exact ⟨rfl, 0, rfl⟩
  | c :: d :: t, _, hz4, hcap, hrow, hb =>
    have hc := hrow 0 (by simp)
    have hb0 := hb.get (i := 0) (by simp)
    simp at hc
    have h0 : 0 ≤ c := by simpa using hb0.1
    have h1 : c ≤ 255 := by simpa using hb0.2
    have HR : Hid (BRow w b (off + 1) (d :: t)) := hrow.drop 1
    have HB : Hid (Bytes (d :: t)) := hb.drop 1
    have hv : valueF (c :: d :: t) = contGo ((d :: t).drop 0) (leadOf ((d :: t).length + 1) c) := rfl
    generalize valueF (c :: d :: t) = V at *
    have hlen : (c :: d :: t).length = (d :: t).length + 1 := rfl
    rw [hlen] at hz4 hcap ⊢
    have hu : 1 ≤ (d :: t).length := by simp
    generalize d :: t = u at *
    have HV := Lib.hid hv
    clear hv hrow hb hb0 hlen
    rcases (by omega : u.length = 1 ∨ u.length = 2 ∨ u.length = 3) with hl | hl | hl
    case' inl => have hm := i32_and31 h0 h1
    case' inr.inl => have hm := i32_and15 h0 h1
    case' inr.inr => have hm := i32_and7 h0 h1
    all_goals
      rw [hl] at hcap ⊢
      rw [hl] at HV
      simp only [leadOf, Nat.reduceAdd, Nat.reduceEqDiff, if_true, if_false] at HV
      have hl3 : u.length ≤ 3 := by omega
      have HL := Lib.hid hl
      clear hl hz4 hu
      go_enter Tryd.func47, Tryd.ntmps47
      go_wp2
      go_quiet (fail)
      go_wp2
      have HW : Hid (∃ q, w.drewN nq = w.drewN q) := ⟨nq, rfl⟩
      have hr2 : BRow (w.drewN nq) b (off + 1) u := HR.out.drewN nq
      generalize w.drewN nq = w2 at *
      have HR2 := Lib.hid hr2
      clear hr2 HR hc hm
      go_loop [3, 24] (fun s3 s24 => ∃ (k : Nat) (r : Int), s3 = .int .i32 r ∧ s24 = .int .i64 k ∧ k ≤ u.length ∧ 0 ≤ r ∧ Hid (V = contGo (u.drop k) r) ∧ Hid ((k = 0 → r < 32) ∧ (k = 1 → r < 2048) ∧ (k = 2 → r < 131072))) (fun _ s24 => u.length - (RowKit.intOf s24).toNat)
      case atStart => exact ⟨0, _, rfl, rfl, Nat.zero_le _, by omega, HV, by omega, by omega, by omega⟩
      case round =>
        obtain ⟨k, r, rfl, rfl, hk, hr0, HK, HKB⟩ := hrel
        clear HV
        by_cases hlt : k < u.length
        · have hc := HR2.out k hlt
          have hb1 := HB.out.get hlt
          have HS := Lib.hid (contGo_step (t := u) (k := k) (r := r) (c := u.getD k 0) (by rw [List.getD_eq_getElem?_getD, List.getElem?_eq_getElem hlt]; rfl))
          generalize u.getD k 0 = x at *
          obtain ⟨hx0, hx1⟩ := hb1
          have hrb : r < 131072 := by
            obtain ⟨g1, g2, g3⟩ := HKB.out
            rcases (by omega : k = 0 ∨ k = 1 ∨ k = 2) with h | h | h
            · have := g1 h; omega
            · have := g2 h; omega
            · have := g3 h; omega
          have hor : bits .or .i32 (r * 64) (x % 64) = r * 64 + x % 64 := i32_or6 _ _ (by omega) (by omega) (by omega) (by omega) (by omega)
          have hand : bits .and .u8 x 63 = x % 64 := u8_and63 _ hx0 (by omega)
          have hlt' : (k : Int) < (u.length : Int) := by omega
          rw [HL.out] at hlt'
          have hlt2 := hlt'
          go_wp2
          go_round
          case rel => exact ⟨k + 1, _, rfl, by go_num, by omega, by omega, by show V = _; rw [HK.out, HS.out], by
            have g := HKB.out
            refine ⟨fun h => by omega, fun h => ?_, fun h => ?_⟩
            · have := g.1 (by omega); omega
            · have := g.2.1 (by omega); omega⟩
          case measure => simp [RowKit.intOf]; omega
        · obtain rfl : k = u.length := by omega
          rw [List.drop_length] at HK
          rw [HL.out]
          go_wp2
          go_ret
          exact ⟨ret_int HK.out.symm, HW.out⟩
end Go.Proofs.YtbkjanlkklmleaaDoor
