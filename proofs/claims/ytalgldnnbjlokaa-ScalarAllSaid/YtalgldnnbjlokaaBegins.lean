/- Walks of the document's begins and At. -/
import Derived.Test.YtalgldnnbjlokaaProg
import Derived.Test.YtalgldnnbjlokaaRead
import Derived.Test.YtalgldnnbjlokaaScalRef
namespace Go.Proofs.Ytalgldnnbjlokaa
open Go.RowKit
open Go.Lib

theorem contV_step {t : List Int} {k : Nat} {v b : Int} (h : t[k]? = some b) : contV (t.drop k) v = if b < 128 ∨ 192 ≤ b then none else contV (t.drop (k + 1)) (64 * v + b - 128) := by
  obtain ⟨hlt, rfl⟩ := List.getElem?_eq_some_iff.1 h
  rw [List.drop_eq_getElem_cons hlt]
  rfl

def bnd (i : Nat) (v : Int) : Prop := 0 ≤ v ∧ (i = 1 → v < 32) ∧ (i = 2 → v < 2048) ∧ (i = 3 → v < 131072) ∧ (i = 4 → v < 8388608)

theorem bnd.le {i : Nat} {v : Int} (h : bnd i v) (h1 : 1 ≤ i) (h4 : i ≤ 4) : 0 ≤ v ∧ v < 8388608 ∧ (i < 4 → v < 131072) := by
  obtain ⟨h0, g1, g2, g3, g4⟩ := h
  rcases (by omega : i = 1 ∨ i = 2 ∨ i = 3 ∨ i = 4) with h | h | h | h
  · have := g1 h; omega
  · have := g2 h; omega
  · have := g3 h; omega
  · have := g4 h; omega
theorem bnd.step {i : Nat} {v b : Int} (h : bnd i v) (h1 : 1 ≤ i) (h4 : i < 4) (hb0 : 0 ≤ b) (hb1 : b < 64) : bnd (i + 1) (64 * v + b) := by
  obtain ⟨h0, g1, g2, g3, g4⟩ := h
  rcases (by omega : i = 1 ∨ i = 2 ∨ i = 3) with h | h | h
  · have := g1 h; exact ⟨by omega, by omega, by omega, by omega, by omega⟩
  · have := g2 h; exact ⟨by omega, by omega, by omega, by omega, by omega⟩
  · have := g3 h; exact ⟨by omega, by omega, by omega, by omega, by omega⟩

set_option maxHeartbeats 8000000 in
theorem begins_any (b off len cap : Nat) (zs : List Int) (w : World) (hl : zs.length = len) (hz1 : 1 ≤ len) (hz4 : len ≤ 4) (hrow : BRow w b off zs) (hb : Bytes zs) :
    Calls Try.prog 19 #[.slice (some ⟨b, off, none⟩) len cap] w fun e w' => e = .returned (.tuple #[.int .i32 (beginsF zs).1, .int .i64 (beginsF zs).2]) ∧ w = w' := by
  match zs, hl, hrow, hb with
  | [], hl, _, _ => simp at hl; omega
  | c :: t, hl, hrow, hb =>
    have hc := hrow 0 (by simp)
    have hb0 := hb.get (i := 0) (by simp)
    simp at hc
    have h0 : 0 ≤ c := by simpa using hb0.1
    have h1 : c ≤ 255 := by simpa using hb0.2
    have htl : t.length + 1 = len := hl
    have hrt : BRow w b (off + 1) t := hrow.drop 1
    have hbt : Bytes t := hb.drop 1
    have HRT := Lib.hid hrt
    have HBT := Lib.hid hbt
    clear hb0 hrow hb hrt hbt hl
    have hpos : (0 : Int) < (len : Int) := by omega
    by_cases hc1 : c < 128
    · have HE := Lib.hid (show beginsF (c :: t) = (c, 1) by rw [beginsF, if_pos hc1])
      generalize beginsF (c :: t) = R at *
      clear htl
      go_enter Try.func19, Try.ntmps19
      go_wp2
      go_ret2
      exact ⟨ret_r2 (by rw [HE.out]) (by rw [HE.out]), rfl⟩
    by_cases hn0 : c < 192 ∨ 248 ≤ c
    · have HE := Lib.hid (show beginsF (c :: t) = (0, 0) by
        rw [beginsF, if_neg hc1]
        have : leadB c = (0, 0, 0, 0) := by
          unfold leadB
          rw [if_neg (by omega), if_neg (by omega), if_neg (by omega)]
        simp [this])
      generalize beginsF (c :: t) = R at *
      clear htl
      rcases hn0 with hn0 | hn0
      all_goals
        go_enter Try.func19, Try.ntmps19
        go_wp2
        go_ret2
        exact ⟨ret_r2 (by rw [HE.out]) (by rw [HE.out]), rfl⟩
    have hn : ∃ n : Nat, ∃ v least most : Int, leadB c = ((n : Int), v, least, most) ∧ ((n = 2 ∧ 192 ≤ c ∧ c < 224 ∧ v = c - 192 ∧ least = 128 ∧ most = 2047) ∨ (n = 3 ∧ 224 ≤ c ∧ c < 240 ∧ v = c - 224 ∧ least = 2048 ∧ most = 65535) ∨ (n = 4 ∧ 240 ≤ c ∧ c < 248 ∧ v = c - 240 ∧ least = 65536 ∧ most = 1114111)) := by
      by_cases a1 : c < 224
      · exact ⟨2, _, _, _, by unfold leadB; rw [if_pos (by omega)]; rfl, .inl ⟨rfl, by omega, by omega, rfl, rfl, rfl⟩⟩
      · by_cases a2 : c < 240
        · exact ⟨3, _, _, _, by unfold leadB; rw [if_neg (by omega), if_pos (by omega)]; rfl, .inr (.inl ⟨rfl, by omega, by omega, rfl, rfl, rfl⟩)⟩
        · exact ⟨4, _, _, _, by unfold leadB; rw [if_neg (by omega), if_neg (by omega), if_pos (by omega)]; rfl, .inr (.inr ⟨rfl, by omega, by omega, rfl, rfl, rfl⟩)⟩
    obtain ⟨n, v, least, most, hlead, hcases⟩ := hn
    have HE : Hid (beginsF (c :: t) = if n < len then (0, 0) else match contV t v with | none => (0, 0) | some x => judge n least most (expand (n - len) x x)) := by
      show _ = _
      rw [beginsF, if_neg hc1]
      simp only [hlead, Int.toNat_natCast]
      have hn0 : ¬ (n : Int) = 0 := by omega
      by_cases hx : n < len
      · rw [if_pos (.inr (by omega)), if_pos hx]
      · rw [if_neg (by omega), if_neg hx, htl]
        cases contV t v <;> rfl
    generalize beginsF (c :: t) = R at *
    have hbv : bnd 1 v := ⟨by omega, by omega, by omega, by omega, by omega⟩
    have hn24 : 2 ≤ n ∧ n ≤ 4 := by omega
    obtain ⟨hn2, hn4⟩ := hn24
    have HBV := Lib.hid hbv
    clear hbv hlead hn0 hc1
    have HTL := Lib.hid htl
    clear htl
    rcases hcases with ⟨rfl, a1, a2, rfl, rfl, rfl⟩ | ⟨rfl, a1, a2, rfl, rfl, rfl⟩ | ⟨rfl, a1, a2, rfl, rfl, rfl⟩
    · by_cases hx : 2 < len
      · have HE2 := Lib.hid (show R = (0, 0) by rw [HE.out, if_pos hx])
        clear HE
        have hx' : (2 : Int) < (len : Int) := by omega
        clear HTL
        go_enter Try.func19, Try.ntmps19
        go_wp2
        go_ret2
        exact ⟨ret_r2 (by rw [HE2.out]) (by rw [HE2.out]), rfl⟩
      · have HE2 : Hid (R = match contV t (c - 192) with | none => (0, 0) | some x => judge 2 128 2047 (expand (2 - len) x x)) := by
          show _ = _
          rw [HE.out, if_neg hx]
          rfl
        clear HE
        have hx' : ¬ (2 : Int) < (len : Int) := by omega
        generalize hV : contV t (c - 192) = V at *
        have HV : Hid (V = contV (t.drop (1 - 1)) (c - 192)) := by show V = _; rw [← hV]; rfl
        clear hV
        go_enter Try.func19, Try.ntmps19
        go_wp2
        generalize c - 192 = v0 at *
        go_loop [5, 9] (fun s5 s9 => ∃ (i : Nat) (x : Int), s5 = .int .i32 x ∧ s9 = .int .i64 i ∧ 1 ≤ i ∧ i ≤ len ∧ Hid (bnd i x) ∧ Hid (V = contV (t.drop (i - 1)) x)) (fun _ s9 => len - (RowKit.intOf s9).toNat)
        case atStart => exact ⟨1, v0, rfl, rfl, Nat.le_refl _, hz1, HBV, HV⟩
        case round =>
          obtain ⟨i, x, rfl, rfl, hi1, hil, HB, HX⟩ := hrel
          clear HV HBV
          obtain ⟨hx0, hx1, hx2⟩ := HB.out.le hi1 (by omega)
          by_cases hlt : i < len
          · have hit : i - 1 < t.length := by have := HTL.out; omega
            have hci := HRT.out (i - 1) hit
            have hbi := HBT.out.get hit
            rw [show off + 1 + (i - 1) = off + i by omega] at hci
            have HS := Lib.hid (contV_step (t := t) (k := i - 1) (v := x) (b := t.getD (i - 1) 0) (by rw [List.getD_eq_getElem?_getD, List.getElem?_eq_getElem hit]; rfl))
            generalize t.getD (i - 1) 0 = y at *
            obtain ⟨hy0, hy1⟩ := hbi
            have hlt' : (i : Int) < (len : Int) := by omega
            have hx3 : x < 131072 := hx2 (by omega)
            clear hx2
            by_cases hy : y < 128 ∨ 192 ≤ y
            · have HN := Lib.hid (show R = (0, 0) by rw [HE2.out, HX.out, HS.out, if_pos hy])
              clear HS HX HE2
              rcases hy with hy | hy
              all_goals
                go_wp2
                go_ret2
                exact ⟨ret_r2 (by rw [HN.out]) (by rw [HN.out]), rfl⟩
            · have hya : ¬ y < 128 := by omega
              have hyb : ¬ 192 ≤ y := by omega
              have HB2 := Lib.hid (HB.out.step hi1 (by omega) (by omega : 0 ≤ y - 128) (by omega))
              have HX2 : Hid (V = contV (t.drop (i + 1 - 1)) (64 * x + y - 128)) := by
                show V = _
                rw [HX.out, HS.out, if_neg hy, show i - 1 + 1 = i + 1 - 1 by omega]
              clear HS HX hy
              go_wp2
              go_round
              case rel => exact ⟨i + 1, 64 * x + y - 128, rfl, by go_num, by omega, by omega, by
                show bnd (i + 1) (64 * x + y - 128)
                rw [show 64 * x + y - 128 = 64 * x + (y - 128) by omega]; exact HB2.out, HX2⟩
              case measure => simp [RowKit.intOf]; omega
          · obtain rfl : i = len := by omega
            have HN : Hid (R = judge 2 128 2047 (expand (2 - i) x x)) := by
              show R = _
              rw [HE2.out, HX.out, List.drop_eq_nil_of_le (by have := HTL.out; omega)]
              rfl
            clear HX HE2 hx2
            generalize hE : expand (2 - i) x x = E at *
            have HE := Lib.hid hE
            clear hE
            go_wp2
            go_loop [10, 11, 12] (fun s10 s11 s12 => ∃ (j : Nat) (lo hi : Int), s10 = .int .i32 lo ∧ s11 = .int .i32 hi ∧ s12 = .int .i64 j ∧ 1 ≤ j ∧ j ≤ 2 ∧ Hid (bnd j lo ∧ bnd j hi) ∧ Hid (expand (2 - j) lo hi = E)) (fun _ _ s12 => 2 - (RowKit.intOf s12).toNat)
            case atStart => exact ⟨i, x, x, rfl, rfl, rfl, hi1, by omega, ⟨HB.out, HB.out⟩, HE⟩
            case round =>
              obtain ⟨j, lo, hi, rfl, rfl, rfl, hj1, hj2, HBB, HEE⟩ := hrel
              clear HE HB hx0 hx1
              obtain ⟨hl0, hl1, hl2⟩ := HBB.out.1.le hj1 (by omega)
              obtain ⟨hh0, hh1, hh2⟩ := HBB.out.2.le hj1 (by omega)
              by_cases hlt2 : j < 2
              · have hl3 : lo < 131072 := hl2 (by omega)
                have hh3 : hi < 131072 := hh2 (by omega)
                have hlt3 : (j : Int) < 2 := by omega
                have hb1 := HBB.out.1.step hj1 (by omega) (by omega : (0 : Int) ≤ 0) (by omega)
                have hb2 := HBB.out.2.step hj1 (by omega) (by omega : (0 : Int) ≤ 63) (by omega)
                have HB2 : Hid (bnd (j + 1) (64 * lo) ∧ bnd (j + 1) (64 * hi + 63)) := ⟨by simpa using hb1, hb2⟩
                have HE3 : Hid (expand (2 - (j + 1)) (64 * lo) (64 * hi + 63) = E) := by
                  show _ = E
                  rw [← HEE.out, show 2 - j = (2 - (j + 1)) + 1 by omega]
                  rfl
                clear hb1 hb2 hl2 hh2
                go_wp2
                go_round
                case rel => exact ⟨j + 1, _, _, rfl, rfl, by go_num, by omega, by omega, HB2, HE3⟩
                case measure => simp [RowKit.intOf]; omega
              · obtain rfl : j = 2 := by omega
                have HN2 : Hid (R = judge 2 128 2047 (lo, hi)) := by
                  show R = _
                  rw [HN.out, ← HEE.out]
                  rfl
                clear HN HEE HBB hl2 hh2
                by_cases g1 : hi < 128
                · have HN3 := Lib.hid (show R = (0, 0) by rw [HN2.out, judge, if_pos (.inl g1)])
                  clear HN2
                  go_wp2
                  go_ret2
                  exact ⟨ret_r2 (by rw [HN3.out]) (by rw [HN3.out]), rfl⟩
                · by_cases g2 : 2047 < lo
                  · have HN3 := Lib.hid (show R = (0, 0) by rw [HN2.out, judge, if_pos (.inr (.inl g2))])
                    clear HN2
                    go_wp2
                    go_ret2
                    exact ⟨ret_r2 (by rw [HN3.out]) (by rw [HN3.out]), rfl⟩
                  · by_cases g3 : 55296 ≤ lo
                    · by_cases g4 : hi ≤ 57343
                      · have HN3 := Lib.hid (show R = (0, 0) by rw [HN2.out, judge, if_pos (.inr (.inr ⟨g3, g4⟩))])
                        clear HN2
                        go_wp2
                        go_ret2
                        exact ⟨ret_r2 (by rw [HN3.out]) (by rw [HN3.out]), rfl⟩
                      · have HN3 := Lib.hid (show R = (lo, 2) by rw [HN2.out, judge, if_neg (by simp only; omega)])
                        clear HN2
                        go_wp2
                        go_ret2
                        exact ⟨ret_r2 (by rw [HN3.out]) (by rw [HN3.out]), rfl⟩
                    · have HN3 := Lib.hid (show R = (lo, 2) by rw [HN2.out, judge, if_neg (by simp only; omega)])
                      clear HN2
                      go_wp2
                      go_ret2
                      exact ⟨ret_r2 (by rw [HN3.out]) (by rw [HN3.out]), rfl⟩
    · by_cases hx : 3 < len
      · have HE2 := Lib.hid (show R = (0, 0) by rw [HE.out, if_pos hx])
        clear HE
        have hx' : (3 : Int) < (len : Int) := by omega
        clear HTL
        go_enter Try.func19, Try.ntmps19
        go_wp2
        go_ret2
        exact ⟨ret_r2 (by rw [HE2.out]) (by rw [HE2.out]), rfl⟩
      · have HE2 : Hid (R = match contV t (c - 224) with | none => (0, 0) | some x => judge 3 2048 65535 (expand (3 - len) x x)) := by
          show _ = _
          rw [HE.out, if_neg hx]
          rfl
        clear HE
        have hx' : ¬ (3 : Int) < (len : Int) := by omega
        generalize hV : contV t (c - 224) = V at *
        have HV : Hid (V = contV (t.drop (1 - 1)) (c - 224)) := by show V = _; rw [← hV]; rfl
        clear hV
        go_enter Try.func19, Try.ntmps19
        go_wp2
        generalize c - 224 = v0 at *
        go_loop [5, 9] (fun s5 s9 => ∃ (i : Nat) (x : Int), s5 = .int .i32 x ∧ s9 = .int .i64 i ∧ 1 ≤ i ∧ i ≤ len ∧ Hid (bnd i x) ∧ Hid (V = contV (t.drop (i - 1)) x)) (fun _ s9 => len - (RowKit.intOf s9).toNat)
        case atStart => exact ⟨1, v0, rfl, rfl, Nat.le_refl _, hz1, HBV, HV⟩
        case round =>
          obtain ⟨i, x, rfl, rfl, hi1, hil, HB, HX⟩ := hrel
          clear HV HBV
          obtain ⟨hx0, hx1, hx2⟩ := HB.out.le hi1 (by omega)
          by_cases hlt : i < len
          · have hit : i - 1 < t.length := by have := HTL.out; omega
            have hci := HRT.out (i - 1) hit
            have hbi := HBT.out.get hit
            rw [show off + 1 + (i - 1) = off + i by omega] at hci
            have HS := Lib.hid (contV_step (t := t) (k := i - 1) (v := x) (b := t.getD (i - 1) 0) (by rw [List.getD_eq_getElem?_getD, List.getElem?_eq_getElem hit]; rfl))
            generalize t.getD (i - 1) 0 = y at *
            obtain ⟨hy0, hy1⟩ := hbi
            have hlt' : (i : Int) < (len : Int) := by omega
            have hx3 : x < 131072 := hx2 (by omega)
            clear hx2
            by_cases hy : y < 128 ∨ 192 ≤ y
            · have HN := Lib.hid (show R = (0, 0) by rw [HE2.out, HX.out, HS.out, if_pos hy])
              clear HS HX HE2
              rcases hy with hy | hy
              all_goals
                go_wp2
                go_ret2
                exact ⟨ret_r2 (by rw [HN.out]) (by rw [HN.out]), rfl⟩
            · have hya : ¬ y < 128 := by omega
              have hyb : ¬ 192 ≤ y := by omega
              have HB2 := Lib.hid (HB.out.step hi1 (by omega) (by omega : 0 ≤ y - 128) (by omega))
              have HX2 : Hid (V = contV (t.drop (i + 1 - 1)) (64 * x + y - 128)) := by
                show V = _
                rw [HX.out, HS.out, if_neg hy, show i - 1 + 1 = i + 1 - 1 by omega]
              clear HS HX hy
              go_wp2
              go_round
              case rel => exact ⟨i + 1, 64 * x + y - 128, rfl, by go_num, by omega, by omega, by
                show bnd (i + 1) (64 * x + y - 128)
                rw [show 64 * x + y - 128 = 64 * x + (y - 128) by omega]; exact HB2.out, HX2⟩
              case measure => simp [RowKit.intOf]; omega
          · obtain rfl : i = len := by omega
            have HN : Hid (R = judge 3 2048 65535 (expand (3 - i) x x)) := by
              show R = _
              rw [HE2.out, HX.out, List.drop_eq_nil_of_le (by have := HTL.out; omega)]
              rfl
            clear HX HE2 hx2
            generalize hE : expand (3 - i) x x = E at *
            have HE := Lib.hid hE
            clear hE
            go_wp2
            go_loop [10, 11, 12] (fun s10 s11 s12 => ∃ (j : Nat) (lo hi : Int), s10 = .int .i32 lo ∧ s11 = .int .i32 hi ∧ s12 = .int .i64 j ∧ 1 ≤ j ∧ j ≤ 3 ∧ Hid (bnd j lo ∧ bnd j hi) ∧ Hid (expand (3 - j) lo hi = E)) (fun _ _ s12 => 3 - (RowKit.intOf s12).toNat)
            case atStart => exact ⟨i, x, x, rfl, rfl, rfl, hi1, by omega, ⟨HB.out, HB.out⟩, HE⟩
            case round =>
              obtain ⟨j, lo, hi, rfl, rfl, rfl, hj1, hj2, HBB, HEE⟩ := hrel
              clear HE HB hx0 hx1
              obtain ⟨hl0, hl1, hl2⟩ := HBB.out.1.le hj1 (by omega)
              obtain ⟨hh0, hh1, hh2⟩ := HBB.out.2.le hj1 (by omega)
              by_cases hlt2 : j < 3
              · have hl3 : lo < 131072 := hl2 (by omega)
                have hh3 : hi < 131072 := hh2 (by omega)
                have hlt3 : (j : Int) < 3 := by omega
                have hb1 := HBB.out.1.step hj1 (by omega) (by omega : (0 : Int) ≤ 0) (by omega)
                have hb2 := HBB.out.2.step hj1 (by omega) (by omega : (0 : Int) ≤ 63) (by omega)
                have HB2 : Hid (bnd (j + 1) (64 * lo) ∧ bnd (j + 1) (64 * hi + 63)) := ⟨by simpa using hb1, hb2⟩
                have HE3 : Hid (expand (3 - (j + 1)) (64 * lo) (64 * hi + 63) = E) := by
                  show _ = E
                  rw [← HEE.out, show 3 - j = (3 - (j + 1)) + 1 by omega]
                  rfl
                clear hb1 hb2 hl2 hh2
                go_wp2
                go_round
                case rel => exact ⟨j + 1, _, _, rfl, rfl, by go_num, by omega, by omega, HB2, HE3⟩
                case measure => simp [RowKit.intOf]; omega
              · obtain rfl : j = 3 := by omega
                have HN2 : Hid (R = judge 3 2048 65535 (lo, hi)) := by
                  show R = _
                  rw [HN.out, ← HEE.out]
                  rfl
                clear HN HEE HBB hl2 hh2
                by_cases g1 : hi < 2048
                · have HN3 := Lib.hid (show R = (0, 0) by rw [HN2.out, judge, if_pos (.inl g1)])
                  clear HN2
                  go_wp2
                  go_ret2
                  exact ⟨ret_r2 (by rw [HN3.out]) (by rw [HN3.out]), rfl⟩
                · by_cases g2 : 65535 < lo
                  · have HN3 := Lib.hid (show R = (0, 0) by rw [HN2.out, judge, if_pos (.inr (.inl g2))])
                    clear HN2
                    go_wp2
                    go_ret2
                    exact ⟨ret_r2 (by rw [HN3.out]) (by rw [HN3.out]), rfl⟩
                  · by_cases g3 : 55296 ≤ lo
                    · by_cases g4 : hi ≤ 57343
                      · have HN3 := Lib.hid (show R = (0, 0) by rw [HN2.out, judge, if_pos (.inr (.inr ⟨g3, g4⟩))])
                        clear HN2
                        go_wp2
                        go_ret2
                        exact ⟨ret_r2 (by rw [HN3.out]) (by rw [HN3.out]), rfl⟩
                      · have HN3 := Lib.hid (show R = (lo, 3) by rw [HN2.out, judge, if_neg (by simp only; omega)])
                        clear HN2
                        go_wp2
                        go_ret2
                        exact ⟨ret_r2 (by rw [HN3.out]) (by rw [HN3.out]), rfl⟩
                    · have HN3 := Lib.hid (show R = (lo, 3) by rw [HN2.out, judge, if_neg (by simp only; omega)])
                      clear HN2
                      go_wp2
                      go_ret2
                      exact ⟨ret_r2 (by rw [HN3.out]) (by rw [HN3.out]), rfl⟩
    · by_cases hx : 4 < len
      · exfalso; omega
      · have HE2 : Hid (R = match contV t (c - 240) with | none => (0, 0) | some x => judge 4 65536 1114111 (expand (4 - len) x x)) := by
          show _ = _
          rw [HE.out, if_neg hx]
          rfl
        clear HE
        have hx' : ¬ (4 : Int) < (len : Int) := by omega
        generalize hV : contV t (c - 240) = V at *
        have HV : Hid (V = contV (t.drop (1 - 1)) (c - 240)) := by show V = _; rw [← hV]; rfl
        clear hV
        go_enter Try.func19, Try.ntmps19
        go_wp2
        generalize c - 240 = v0 at *
        go_loop [5, 9] (fun s5 s9 => ∃ (i : Nat) (x : Int), s5 = .int .i32 x ∧ s9 = .int .i64 i ∧ 1 ≤ i ∧ i ≤ len ∧ Hid (bnd i x) ∧ Hid (V = contV (t.drop (i - 1)) x)) (fun _ s9 => len - (RowKit.intOf s9).toNat)
        case atStart => exact ⟨1, v0, rfl, rfl, Nat.le_refl _, hz1, HBV, HV⟩
        case round =>
          obtain ⟨i, x, rfl, rfl, hi1, hil, HB, HX⟩ := hrel
          clear HV HBV
          obtain ⟨hx0, hx1, hx2⟩ := HB.out.le hi1 (by omega)
          by_cases hlt : i < len
          · have hit : i - 1 < t.length := by have := HTL.out; omega
            have hci := HRT.out (i - 1) hit
            have hbi := HBT.out.get hit
            rw [show off + 1 + (i - 1) = off + i by omega] at hci
            have HS := Lib.hid (contV_step (t := t) (k := i - 1) (v := x) (b := t.getD (i - 1) 0) (by rw [List.getD_eq_getElem?_getD, List.getElem?_eq_getElem hit]; rfl))
            generalize t.getD (i - 1) 0 = y at *
            obtain ⟨hy0, hy1⟩ := hbi
            have hlt' : (i : Int) < (len : Int) := by omega
            have hx3 : x < 131072 := hx2 (by omega)
            clear hx2
            by_cases hy : y < 128 ∨ 192 ≤ y
            · have HN := Lib.hid (show R = (0, 0) by rw [HE2.out, HX.out, HS.out, if_pos hy])
              clear HS HX HE2
              rcases hy with hy | hy
              all_goals
                go_wp2
                go_ret2
                exact ⟨ret_r2 (by rw [HN.out]) (by rw [HN.out]), rfl⟩
            · have hya : ¬ y < 128 := by omega
              have hyb : ¬ 192 ≤ y := by omega
              have HB2 := Lib.hid (HB.out.step hi1 (by omega) (by omega : 0 ≤ y - 128) (by omega))
              have HX2 : Hid (V = contV (t.drop (i + 1 - 1)) (64 * x + y - 128)) := by
                show V = _
                rw [HX.out, HS.out, if_neg hy, show i - 1 + 1 = i + 1 - 1 by omega]
              clear HS HX hy
              go_wp2
              go_round
              case rel => exact ⟨i + 1, 64 * x + y - 128, rfl, by go_num, by omega, by omega, by
                show bnd (i + 1) (64 * x + y - 128)
                rw [show 64 * x + y - 128 = 64 * x + (y - 128) by omega]; exact HB2.out, HX2⟩
              case measure => simp [RowKit.intOf]; omega
          · obtain rfl : i = len := by omega
            have HN : Hid (R = judge 4 65536 1114111 (expand (4 - i) x x)) := by
              show R = _
              rw [HE2.out, HX.out, List.drop_eq_nil_of_le (by have := HTL.out; omega)]
              rfl
            clear HX HE2 hx2
            generalize hE : expand (4 - i) x x = E at *
            have HE := Lib.hid hE
            clear hE
            go_wp2
            go_loop [10, 11, 12] (fun s10 s11 s12 => ∃ (j : Nat) (lo hi : Int), s10 = .int .i32 lo ∧ s11 = .int .i32 hi ∧ s12 = .int .i64 j ∧ 1 ≤ j ∧ j ≤ 4 ∧ Hid (bnd j lo ∧ bnd j hi) ∧ Hid (expand (4 - j) lo hi = E)) (fun _ _ s12 => 4 - (RowKit.intOf s12).toNat)
            case atStart => exact ⟨i, x, x, rfl, rfl, rfl, hi1, by omega, ⟨HB.out, HB.out⟩, HE⟩
            case round =>
              obtain ⟨j, lo, hi, rfl, rfl, rfl, hj1, hj2, HBB, HEE⟩ := hrel
              clear HE HB hx0 hx1
              obtain ⟨hl0, hl1, hl2⟩ := HBB.out.1.le hj1 (by omega)
              obtain ⟨hh0, hh1, hh2⟩ := HBB.out.2.le hj1 (by omega)
              by_cases hlt2 : j < 4
              · have hl3 : lo < 131072 := hl2 (by omega)
                have hh3 : hi < 131072 := hh2 (by omega)
                have hlt3 : (j : Int) < 4 := by omega
                have hb1 := HBB.out.1.step hj1 (by omega) (by omega : (0 : Int) ≤ 0) (by omega)
                have hb2 := HBB.out.2.step hj1 (by omega) (by omega : (0 : Int) ≤ 63) (by omega)
                have HB2 : Hid (bnd (j + 1) (64 * lo) ∧ bnd (j + 1) (64 * hi + 63)) := ⟨by simpa using hb1, hb2⟩
                have HE3 : Hid (expand (4 - (j + 1)) (64 * lo) (64 * hi + 63) = E) := by
                  show _ = E
                  rw [← HEE.out, show 4 - j = (4 - (j + 1)) + 1 by omega]
                  rfl
                clear hb1 hb2 hl2 hh2
                go_wp2
                go_round
                case rel => exact ⟨j + 1, _, _, rfl, rfl, by go_num, by omega, by omega, HB2, HE3⟩
                case measure => simp [RowKit.intOf]; omega
              · obtain rfl : j = 4 := by omega
                have HN2 : Hid (R = judge 4 65536 1114111 (lo, hi)) := by
                  show R = _
                  rw [HN.out, ← HEE.out]
                  rfl
                clear HN HEE HBB hl2 hh2
                by_cases g1 : hi < 65536
                · have HN3 := Lib.hid (show R = (0, 0) by rw [HN2.out, judge, if_pos (.inl g1)])
                  clear HN2
                  go_wp2
                  go_ret2
                  exact ⟨ret_r2 (by rw [HN3.out]) (by rw [HN3.out]), rfl⟩
                · by_cases g2 : 1114111 < lo
                  · have HN3 := Lib.hid (show R = (0, 0) by rw [HN2.out, judge, if_pos (.inr (.inl g2))])
                    clear HN2
                    go_wp2
                    go_ret2
                    exact ⟨ret_r2 (by rw [HN3.out]) (by rw [HN3.out]), rfl⟩
                  · by_cases g3 : 55296 ≤ lo
                    · by_cases g4 : hi ≤ 57343
                      · have HN3 := Lib.hid (show R = (0, 0) by rw [HN2.out, judge, if_pos (.inr (.inr ⟨g3, g4⟩))])
                        clear HN2
                        go_wp2
                        go_ret2
                        exact ⟨ret_r2 (by rw [HN3.out]) (by rw [HN3.out]), rfl⟩
                      · have HN3 := Lib.hid (show R = (lo, 4) by rw [HN2.out, judge, if_neg (by simp only; omega)])
                        clear HN2
                        go_wp2
                        go_ret2
                        exact ⟨ret_r2 (by rw [HN3.out]) (by rw [HN3.out]), rfl⟩
                    · have HN3 := Lib.hid (show R = (lo, 4) by rw [HN2.out, judge, if_neg (by simp only; omega)])
                      clear HN2
                      go_wp2
                      go_ret2
                      exact ⟨ret_r2 (by rw [HN3.out]) (by rw [HN3.out]), rfl⟩
end Go.Proofs.Ytalgldnnbjlokaa
