/- Walks of scalar.read, Next. -/
import Derived.Test.YtbkjanlkklmleaaDoorProg
import Derived.Test.YtbkjanlkklmleaaDoorValue
namespace Go.Proofs.YtbkjanlkklmleaaDoor
open Go.RowKit
open Go.Lib

theorem ret_r3 {r r' n n' : Int} {b b' : Bool} (h1 : r = r') (h2 : n = n') (h3 : b = b') : Ending.returned (.tuple #[.int .i32 r, .int .i64 n, .bool b]) = .returned (.tuple #[.int .i32 r', .int .i64 n', .bool b']) := by
  subst h1 h2 h3; rfl
theorem ret_r2 {r r' n n' : Int} (h1 : r = r') (h2 : n = n') : Ending.returned (.tuple #[.int .i32 r, .int .i64 n]) = .returned (.tuple #[.int .i32 r', .int .i64 n']) := by
  subst h1 h2; rfl

theorem there_at (b off len cap : Nat) (zs : List Int) (n lo hi : Int) (w : World) (hl : zs.length = len) (hn1 : 1 ≤ n) (hn4 : n ≤ 4) (hz : 0 < len) (hcap : len ≤ 9223372036854775807) (hrow : BRow w b off zs) :
    Calls Tryd.prog 46 #[.slice (some ⟨b, off, none⟩) len cap, .int .i64 n, .int .u8 lo, .int .u8 hi] w fun e w' => e = .returned (.int .i64 ((thereGo (zs.drop 1) (n.toNat - 1) lo hi + 1 : Nat) : Int)) ∧ w = w' := by
  subst hl
  obtain ⟨m, rfl⟩ := Int.eq_ofNat_of_zero_le (by omega : 0 ≤ n)
  rw [Int.toNat_natCast]
  exact there_any b off cap zs m lo hi w (by omega) (by omega) hz hcap hrow

theorem value_at (b off len cap : Nat) (zs : List Int) (w : World) (hl : zs.length = len) (hz1 : 1 ≤ len) (hz4 : len ≤ 4) (hcap : len ≤ cap) (hrow : BRow w b off zs) (hb : Bytes zs) :
    Calls Tryd.prog 47 #[.slice (some ⟨b, off, none⟩) len cap] w fun e w' => e = .returned (.int .i32 (valueF zs)) ∧ ∃ q, w' = w.drewN q := by
  subst hl
  exact value_any b off cap zs w hz1 hz4 hcap hrow hb

/-- A slice of bytes that reads as a list. -/
def SB (w : World) (a : Option Addr) (cap : Nat) (zs : List Int) : Prop :=
  zs.length ≤ cap ∧ cap ≤ 9223372036854775807 ∧ Bytes zs ∧ (zs = [] ∨ ∃ b off, a = some ⟨b, off, none⟩ ∧ b < w.heap.size ∧ BRow w b off zs)

theorem SB.below {w w' : World} {B : Nat} {a : Option Addr} {cap : Nat} {zs : List Int} (h : SB w a cap zs) (hb : Below B w w') (hB : w.heap.size ≤ B) : SB w' a cap zs := by
  obtain ⟨h1, h2, h3, h4⟩ := h
  refine ⟨h1, h2, h3, ?_⟩
  rcases h4 with h | ⟨b, off, ha, hlt, hr⟩
  · exact .inl h
  · exact .inr ⟨b, off, ha, by have := hb.size; omega, hr.below hb (by omega)⟩

def readAt (zs : List Int) (i : Int) : Int × Nat × Bool := if 0 ≤ i ∧ i < zs.length then readF (zs.drop i.toNat) else (0, 0, false)

theorem needN_cases (c : Int) : needN c = 0 ∨ (1 ≤ needN c ∧ needN c ≤ 4) := by
  unfold needN
  repeat' split
  all_goals omega

set_option maxHeartbeats 4000000 in
theorem read_any (a : Option Addr) (cap : Nat) (zs : List Int) (i : Int) (w : World) (hs : SB w a cap zs) :
    Calls Tryd.prog 27 #[.slice a zs.length cap, .int .i64 i] w fun e w' => e = .returned (.tuple #[.int .i32 (readAt zs i).1, .int .i64 (readAt zs i).2.1, .bool (readAt zs i).2.2]) ∧ ∃ q, w' = w.drewN q := by
  obtain ⟨h1, h2, h3, h4⟩ := hs
  by_cases hi0 : i < 0
  · have HE := Lib.hid (show readAt zs i = (0, 0, false) by rw [readAt, if_neg (by omega)])
    generalize readAt zs i = R at *
    clear h3 h4
    go_enter Tryd.func27, Tryd.ntmps27
    go_wp2
    go_ret3
    exact ⟨by rw [HE.out]; rfl, 0, rfl⟩
  by_cases hi1 : (zs.length : Int) ≤ i
  · have HE := Lib.hid (show readAt zs i = (0, 0, false) by rw [readAt, if_neg (by omega)])
    generalize readAt zs i = R at *
    clear h3 h4
    go_enter Tryd.func27, Tryd.ntmps27
    go_wp2
    go_ret3
    exact ⟨by rw [HE.out]; rfl, 0, rfl⟩
  obtain ⟨k, rfl⟩ := Int.eq_ofNat_of_zero_le (by omega : 0 ≤ i)
  have hk : k < zs.length := by omega
  rcases h4 with rfl | ⟨b, off, rfl, hb, hrow⟩
  · simp at hk
  have HE : Hid (readAt zs k = readF (zs.drop k)) := by
    show _ = _
    rw [readAt, if_pos (by omega), Int.toNat_natCast]
  generalize readAt zs k = R at *
  have hrd := hrow.drop k
  have hbd := h3.drop k
  have hc := hrow k hk
  have hbc := h3.get hk
  have hcons : zs.drop k = zs.getD k 0 :: zs.drop (k + 1) := by
    rw [List.drop_eq_getElem_cons hk, List.getD_eq_getElem?_getD, List.getElem?_eq_getElem hk]; rfl
  rw [hcons] at hrd hbd HE
  have hlen : (zs.getD k 0 :: zs.drop (k + 1)).length = zs.length - k := by simp; omega
  generalize zs.getD k 0 = c at *
  generalize zs.drop (k + 1) = t at *
  obtain ⟨hc0, hc1⟩ := hbc
  have HRD := Lib.hid hrd
  have HBD := Lib.hid hbd
  have HLEN := Lib.hid hlen
  clear hrd hbd hlen hcons h3 hrow hb
  have hk' : (k : Int) < (zs.length : Int) := by omega
  have hkc : k < cap := by omega
  generalize zs.length = len at *
  have hpos : 0 < len - k := by omega
  rcases needN_cases c with hn | ⟨hn1, hn4⟩
  · have HN : Hid (readF (c :: t) = (65533, 1, false)) := by
      show _ = _
      unfold readF
      simp only
      rw [if_pos hn]
    go_enter Tryd.func27, Tryd.ntmps27
    go_wp2_with (go_at_call 45; refine (need_any c hc0 hc1 _).mono ?_; rintro e w' ⟨rfl, rfl⟩)
    go_ret3
    exact ⟨by rw [HE.out, HN.out]; rfl, 0, rfl⟩
  · have hne : (needN c == 0) = false := by simp; omega
    by_cases hlt : ((thereGo t ((needN c).toNat - 1) (needLo c) (needHi c) + 1 : Nat) : Int) < needN c
    · have HN : Hid (readF (c :: t) = (65533, thereGo t ((needN c).toNat - 1) (needLo c) (needHi c) + 1, false)) := by
        show _ = _
        unfold readF
        simp only
        rw [if_neg (by omega), if_pos hlt]
      have hth := fun w hr => there_at b (off + k) (len - k) (cap - k) (c :: t) (needN c) (needLo c) (needHi c) w HLEN.out hn1 hn4 hpos (by omega) hr
      rw [show (c :: t).drop 1 = t from rfl] at hth
      have HTH := Lib.hid hth
      clear hth
      generalize thereGo t ((needN c).toNat - 1) (needLo c) (needHi c) + 1 = T at *
      go_enter Tryd.func27, Tryd.ntmps27
      go_wp2_with (first
        | (go_at_call 45; refine (need_any c hc0 hc1 _).mono ?_; rintro e w' ⟨rfl, rfl⟩)
        | (go_at_call 46; refine (HTH.out _ HRD.out).mono ?_; rintro e w' ⟨rfl, rfl⟩))
      go_ret3
      exact ⟨by rw [HE.out, HN.out]; rfl, 0, rfl⟩
    · have HN : Hid (readF (c :: t) = (valueF ((c :: t).take (needN c).toNat), (needN c).toNat, true)) := by
        show _ = _
        unfold readF
        simp only
        rw [if_neg (by omega), if_neg hlt]
      have hth := fun w hr => there_at b (off + k) (len - k) (cap - k) (c :: t) (needN c) (needLo c) (needHi c) w HLEN.out hn1 hn4 hpos (by omega) hr
      rw [show (c :: t).drop 1 = t from rfl] at hth
      have HTH := Lib.hid hth
      clear hth
      have htl := (thereGo_le t ((needN c).toNat - 1) (needLo c) (needHi c)).1
      have hcl : (c :: t).length = t.length + 1 := rfl
      have hl2 := HLEN.out
      have hnl : (needN c).toNat ≤ len - k := by omega
      have htk : ((c :: t).take (needN c).toNat).length = (needN c).toNat := by rw [List.length_take]; omega
      have HTK := Lib.hid htk
      clear htl hcl hl2 htk
      generalize thereGo t ((needN c).toNat - 1) (needLo c) (needHi c) + 1 = T at *
      go_enter Tryd.func27, Tryd.ntmps27
      go_wp2_with (first
        | (go_at_call 45; refine (need_any c hc0 hc1 _).mono ?_; rintro e w' ⟨rfl, rfl⟩)
        | (go_at_call 46; refine (HTH.out _ HRD.out).mono ?_; rintro e w' ⟨rfl, rfl⟩))
      refine (value_at b (off + k) _ _ ((c :: t).take (needN c).toNat) _ HTK.out (by omega) (by omega) (by omega) (HRD.out.take _) (HBD.out.take _)).mono ?_
      rintro e w' ⟨rfl, q, rfl⟩
      go_wp2
      go_ret3
      have e := HE.out.trans HN.out
      exact ⟨ret_r3 (by rw [e]) (by rw [e]; show needN c = ((needN c).toNat : Int); omega) (by rw [e]), q, rfl⟩

end Go.Proofs.YtbkjanlkklmleaaDoor
