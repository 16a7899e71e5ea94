/- Chapter 01: scalars: the plain law and the walks of scalar.Next and of the document's All. -/
import Derived.Test.YtpnbkecchfhimaaGreatDoorProg
import Derived.Test.YtpnbkecchfhimaaGreatDoorBase
import Derived.Test.YtpnbkecchfhimaaGreatDoorMem
import Derived.Deep.LoopGhost
import Derived.Laws.BitsLemmas
import Derived.Maps.AppendAt
import Derived.OwnWalk
import Derived.Deep.AppendLies

/- out of Scal -/
section
namespace Go.Proofs.YtpnbkecchfhimaaGreatDoor.S1

def needN (c : Int) : Int := if c < 128 then 1 else if 194 ≤ c ∧ c ≤ 223 then 2 else if 224 ≤ c ∧ c ≤ 239 then 3 else if 240 ≤ c ∧ c ≤ 244 then 4 else 0
def needLo (c : Int) : Int := if c = 224 then 160 else if c = 240 then 144 else 128
def needHi (c : Int) : Int := if c = 237 then 159 else if c = 244 then 143 else 191

/-- How many bytes more of a sequence stand there: of at most m. -/
def thereGo : List Int → Nat → Int → Int → Nat
  | [], _, _, _ => 0
  | _ :: _, 0, _, _ => 0
  | c :: t, m + 1, lo, hi => if lo ≤ c ∧ c ≤ hi then thereGo t m 128 191 + 1 else 0

def contGo : List Int → Int → Int
  | [], r => r
  | c :: t, r => contGo t (r * 64 + c % 64)

/-- What the first byte of a sequence of n bytes bears. -/
def leadOf (n : Nat) (c : Int) : Int := if n = 2 then c % 32 else if n = 3 then c % 16 else c % 8

def valueF : List Int → Int
  | [] => 0
  | [c] => c
  | c :: t => contGo t (leadOf (t.length + 1) c)

/-- What is read at the beginning of bytes that are not none: the scalar, its size, whether it is whole. -/
def readF (l : List Int) : Int × Nat × Bool :=
  match l with
  | [] => (0, 0, false)
  | c :: t =>
    if needN c = 0 then (65533, 1, false)
    else
      let k := thereGo t ((needN c).toNat - 1) (needLo c) (needHi c) + 1
      if (k : Int) < needN c then (65533, k, false) else (valueF (l.take (needN c).toNat), (needN c).toNat, true)

theorem thereGo_le : ∀ (l : List Int) (m : Nat) (lo hi : Int), thereGo l m lo hi ≤ l.length ∧ thereGo l m lo hi ≤ m
  | [], m, _, _ => ⟨Nat.le_refl _, Nat.zero_le _⟩
  | _ :: _, 0, _, _ => ⟨Nat.zero_le _, Nat.le_refl _⟩
  | c :: t, m + 1, lo, hi => by
    unfold thereGo
    have := thereGo_le t m 128 191
    split
    · simp only [List.length_cons]; omega
    · exact ⟨Nat.zero_le _, Nat.zero_le _⟩

theorem readF_size (c : Int) (t : List Int) : 1 ≤ (readF (c :: t)).2.1 ∧ (readF (c :: t)).2.1 ≤ t.length + 1 := by
  unfold readF
  have h := thereGo_le t ((needN c).toNat - 1) (needLo c) (needHi c)
  simp only
  split
  · exact ⟨Nat.le_refl _, by simp⟩
  · split
    · simp only; omega
    · simp only
      have : needN c = 1 ∨ needN c = 2 ∨ needN c = 3 ∨ needN c = 4 := by
        rename_i h0 _
        unfold needN at h0 ⊢
        repeat' split
        all_goals omega
      omega
end Go.Proofs.YtpnbkecchfhimaaGreatDoor.S1
end

/- out of Need -/
section
namespace Go.Proofs.YtpnbkecchfhimaaGreatDoor.S1
open Go.RowKit
open Go.Lib

theorem ret_t3 {n n' lo lo' hi hi' : Int} (h1 : n = n') (h2 : lo = lo') (h3 : hi = hi') : Ending.returned (.tuple #[.int .i64 n, .int .u8 lo, .int .u8 hi]) = .returned (.tuple #[.int .i64 n', .int .u8 lo', .int .u8 hi']) := by
  subst h1 h2 h3; rfl

set_option maxHeartbeats 4000000 in
theorem need_any (c : Int) (h0 : 0 ≤ c) (h1 : c ≤ 255) (w : World) : Calls Tryz.prog 142 #[.int .u8 c] w fun e w' => e = .returned (.tuple #[.int .i64 (needN c), .int .u8 (needLo c), .int .u8 (needHi c)]) ∧ w = w' := by
  go_enter Tryz.func142, Tryz.ntmps142
  go_wp2
  all_goals
    simp only [beq_iff_eq, beq_eq_false_iff_ne, ne_eq] at *
    first
      | (exfalso; omega)
      | (go_ret3
         refine ⟨ret_t3 ?_ ?_ ?_, rfl⟩
         · unfold needN; repeat (first | rw [if_pos (by omega)] | rw [if_neg (by omega)])
         · unfold needLo; repeat (first | rw [if_pos (by omega)] | rw [if_neg (by omega)])
         · unfold needHi; repeat (first | rw [if_pos (by omega)] | rw [if_neg (by omega)]))

theorem thereGo_step {l : List Int} {k n : Nat} {lo hi c : Int} (h : l[k]? = some c) (hk : k < n) : thereGo (l.drop k) (n - k) lo hi = if lo ≤ c ∧ c ≤ hi then thereGo (l.drop (k + 1)) (n - (k + 1)) 128 191 + 1 else 0 := by
  obtain ⟨hlt, rfl⟩ := List.getElem?_eq_some_iff.1 h
  rw [List.drop_eq_getElem_cons hlt, show n - k = (n - (k + 1)) + 1 by omega]
  rfl
theorem thereGo_end {l : List Int} {k n : Nat} {lo hi : Int} (h : n ≤ k ∨ l.length ≤ k) : thereGo (l.drop k) (n - k) lo hi = 0 := by
  rcases h with h | h
  · rw [show n - k = 0 by omega]
    cases l.drop k <;> rfl
  · rw [List.drop_eq_nil_of_le h]; rfl

/-- Bytes that lie in memory: a row of them. -/
def BRow (w : World) (b off : Nat) (zs : List Int) : Prop := ∀ i, i < zs.length → w.cell? ⟨b, off + i, none⟩ = some (.int .u8 (zs.getD i 0))
/-- Each is a byte. -/
def Bytes (zs : List Int) : Prop := ∀ x ∈ zs, 0 ≤ x ∧ x ≤ 255

theorem Bytes.get {zs : List Int} (h : Bytes zs) {i : Nat} (hi : i < zs.length) : 0 ≤ zs.getD i 0 ∧ zs.getD i 0 ≤ 255 := by
  rw [List.getD_eq_getElem?_getD, List.getElem?_eq_getElem hi]
  exact h _ (List.getElem_mem hi)
theorem BRow.drop {w : World} {b off : Nat} {zs : List Int} (h : BRow w b off zs) (k : Nat) : BRow w b (off + k) (zs.drop k) := fun i hi => by
  have := h (k + i) (by simp at hi; omega)
  rw [Nat.add_assoc, this]
  simp
theorem BRow.take {w : World} {b off : Nat} {zs : List Int} (h : BRow w b off zs) (k : Nat) : BRow w b off (zs.take k) := fun i hi => by
  have hi' : i < zs.length ∧ i < k := by simp at hi; omega
  rw [h i hi'.1]
  simp [hi'.2]
theorem BRow.below {w w' : World} {B b off : Nat} {zs : List Int} (h : BRow w b off zs) (hb : Below B w w') (hlt : b < B) : BRow w' b off zs := fun i hi => by
  rw [hb.cell (p := ⟨b, off + i, none⟩) hlt]; exact h i hi
theorem BRow.drewN {w : World} {b off : Nat} {zs : List Int} (h : BRow w b off zs) (n : Nat) : BRow (w.drewN n) b off zs := fun i hi => h i hi
theorem Bytes.drop {zs : List Int} (h : Bytes zs) (k : Nat) : Bytes (zs.drop k) := fun x hx => h x (List.mem_of_mem_drop hx)
theorem Bytes.take {zs : List Int} (h : Bytes zs) (k : Nat) : Bytes (zs.take k) := fun x hx => h x (List.mem_of_mem_take hx)

set_option maxHeartbeats 4000000 in
theorem there_any (b off cap : Nat) (zs : List Int) (n : Nat) (lo hi : Int) (w : World) (hn1 : 1 ≤ n) (hn4 : n ≤ 4) (hz : 0 < zs.length) (_hcap : zs.length ≤ 9223372036854775807) (hrow : BRow w b off zs) :
    Calls Tryz.prog 143 #[.slice (some ⟨b, off, none⟩) zs.length cap, .int .i64 n, .int .u8 lo, .int .u8 hi] w fun e w' => e = .returned (.int .i64 ((thereGo (zs.drop 1) (n - 1) lo hi + 1 : Nat) : Int)) ∧ w = w' := by
  have HR := Lib.hid hrow
  clear hrow
  generalize hT : thereGo (zs.drop 1) (n - 1) lo hi + 1 = T
  have HT := Lib.hid hT
  clear hT
  go_enter Tryz.func143, Tryz.ntmps143
  go_wp2
  go_loop [2, 3, 9] (fun s2 s3 s9 => ∃ (k : Nat) (l h : Int), s2 = .int .u8 l ∧ s3 = .int .u8 h ∧ s9 = .int .i64 k ∧ 1 ≤ k ∧ k ≤ n ∧ k ≤ zs.length ∧ Hid (T = thereGo (zs.drop k) (n - k) l h + k)) (fun _ _ s9 => n - (RowKit.intOf s9).toNat)
  case atStart => exact ⟨1, lo, hi, rfl, rfl, rfl, Nat.le_refl _, hn1, hz, by show T = _; rw [← HT.out]⟩
  case round =>
    obtain ⟨k, l, h, rfl, rfl, rfl, hk1, hkn, hkz, HK⟩ := hrel
    clear HT
    by_cases h1 : k < n
    · by_cases h2 : k < zs.length
      · have hc := HR.out k h2
        have hst := thereGo_step (l := zs) (k := k) (n := n) (lo := l) (hi := h) (c := zs.getD k 0) (by rw [List.getD_eq_getElem?_getD, List.getElem?_eq_getElem h2]; rfl) h1
        have HS := Lib.hid hst
        clear hst
        generalize zs.getD k 0 = c at *
        have h1' : (k : Int) < (n : Int) := by omega
        have h2' : (k : Int) < (zs.length : Int) := by omega
        by_cases h3 : l ≤ c
        · by_cases h4 : c ≤ h
          · go_wp2
            go_round
            case rel => exact ⟨k + 1, 128, 191, rfl, rfl, by go_num, by omega, by omega, by omega, by show T = _; rw [HK.out, HS.out, if_pos ⟨h3, h4⟩]; omega⟩
            case measure => simp [RowKit.intOf]; omega
          · go_wp2
            go_ret
            exact ⟨ret_int (by rw [HK.out, HS.out, if_neg (by omega)]; omega), rfl⟩
        · go_wp2
          go_ret
          exact ⟨ret_int (by rw [HK.out, HS.out, if_neg (by omega)]; omega), rfl⟩
      · have h2' : ¬ (k : Int) < (zs.length : Int) := by omega
        go_wp2
        go_ret
        exact ⟨ret_int (by rw [HK.out, thereGo_end (.inr (by omega))]; omega), rfl⟩
    · have h1' : ¬ (k : Int) < (n : Int) := by omega
      go_wp2
      go_ret
      exact ⟨ret_int (by rw [HK.out, thereGo_end (.inl (by omega))]; omega), rfl⟩
end Go.Proofs.YtpnbkecchfhimaaGreatDoor.S1
end

/- out of Value -/
section
namespace Go.Proofs.YtpnbkecchfhimaaGreatDoor.S1
open Go.RowKit
open Go.Lib

theorem i32_and31 {x : Int} (h₀ : 0 ≤ x) (h₁ : x ≤ 255) : bits .and .i32 x 31 = x % 32 := bits_mask .i32 31 (by decide) wraps_i32 5 (by decide) x h₀ (by omega)
theorem i32_and15 {x : Int} (h₀ : 0 ≤ x) (h₁ : x ≤ 255) : bits .and .i32 x 15 = x % 16 := bits_mask .i32 31 (by decide) wraps_i32 4 (by decide) x h₀ (by omega)
theorem i32_and7 {x : Int} (h₀ : 0 ≤ x) (h₁ : x ≤ 255) : bits .and .i32 x 7 = x % 8 := bits_mask .i32 31 (by decide) wraps_i32 3 (by decide) x h₀ (by omega)

theorem contGo_step {t : List Int} {k : Nat} {r c : Int} (h : t[k]? = some c) : contGo (t.drop k) r = contGo (t.drop (k + 1)) (r * 64 + c % 64) := by
  obtain ⟨hlt, rfl⟩ := List.getElem?_eq_some_iff.1 h
  rw [List.drop_eq_getElem_cons hlt]
  rfl

set_option maxHeartbeats 4000000 in
theorem value_any (b off cap : Nat) (zs : List Int) (w : World) (hz1 : 1 ≤ zs.length) (hz4 : zs.length ≤ 4) (hcap : zs.length ≤ cap) (hrow : BRow w b off zs) (hb : Bytes zs) :
    Calls Tryz.prog 144 #[.slice (some ⟨b, off, none⟩) zs.length cap] w fun e w' => e = .returned (.int .i32 (valueF zs)) ∧ ∃ q, w' = w.drewN q := by
  match zs, hz1, hz4, hcap, hrow, hb with
  | [c], _, _, _, hrow, hb =>
    have hc := hrow 0 (by simp)
    have hb0 := hb.get (i := 0) (by simp)
    simp at hc hb0
    clear hrow hb
    go_enter Tryz.func144, Tryz.ntmps144
    go_wp2
    go_ret
    exact ⟨rfl, 0, rfl⟩
  | c :: d :: t, _, hz4, hcap, hrow, hb =>
    have hc := hrow 0 (by simp)
    have hb0 := hb.get (i := 0) (by simp)
    simp at hc
    have h0 : 0 ≤ c := by simpa using hb0.1
    have h1 : c ≤ 255 := by simpa using hb0.2
    have HR : Hid (BRow w b (off + 1) (d :: t)) := hrow.drop 1
    have HB : Hid (Bytes (d :: t)) := hb.drop 1
    have hv : valueF (c :: d :: t) = contGo ((d :: t).drop 0) (leadOf ((d :: t).length + 1) c) := rfl
    generalize valueF (c :: d :: t) = V at *
    have hlen : (c :: d :: t).length = (d :: t).length + 1 := rfl
    rw [hlen] at hz4 hcap ⊢
    have hu : 1 ≤ (d :: t).length := by simp
    generalize d :: t = u at *
    have HV := Lib.hid hv
    clear hv hrow hb hb0 hlen
    rcases (by omega : u.length = 1 ∨ u.length = 2 ∨ u.length = 3) with hl | hl | hl
    case' inl => have hm := i32_and31 h0 h1
    case' inr.inl => have hm := i32_and15 h0 h1
    case' inr.inr => have hm := i32_and7 h0 h1
    all_goals
      rw [hl] at hcap ⊢
      rw [hl] at HV
      simp only [leadOf, Nat.reduceAdd, Nat.reduceEqDiff, if_true, if_false] at HV
      have hl3 : u.length ≤ 3 := by omega
      have HL := Lib.hid hl
      clear hl hz4 hu
      go_enter Tryz.func144, Tryz.ntmps144
      go_wp2
      go_quiet (fail)
      go_wp2
      have HW : Hid (∃ q, w.drewN nq = w.drewN q) := ⟨nq, rfl⟩
      have hr2 : BRow (w.drewN nq) b (off + 1) u := HR.out.drewN nq
      generalize w.drewN nq = w2 at *
      have HR2 := Lib.hid hr2
      clear hr2 HR hc hm
      go_loop [3, 24] (fun s3 s24 => ∃ (k : Nat) (r : Int), s3 = .int .i32 r ∧ s24 = .int .i64 k ∧ k ≤ u.length ∧ 0 ≤ r ∧ Hid (V = contGo (u.drop k) r) ∧ Hid ((k = 0 → r < 32) ∧ (k = 1 → r < 2048) ∧ (k = 2 → r < 131072))) (fun _ s24 => u.length - (RowKit.intOf s24).toNat)
      case atStart => exact ⟨0, _, rfl, rfl, Nat.zero_le _, by omega, HV, by omega, by omega, by omega⟩
      case round =>
        obtain ⟨k, r, rfl, rfl, hk, hr0, HK, HKB⟩ := hrel
        clear HV
        by_cases hlt : k < u.length
        · have hc := HR2.out k hlt
          have hb1 := HB.out.get hlt
          have HS := Lib.hid (contGo_step (t := u) (k := k) (r := r) (c := u.getD k 0) (by rw [List.getD_eq_getElem?_getD, List.getElem?_eq_getElem hlt]; rfl))
          generalize u.getD k 0 = x at *
          obtain ⟨hx0, hx1⟩ := hb1
          have hrb : r < 131072 := by
            obtain ⟨g1, g2, g3⟩ := HKB.out
            rcases (by omega : k = 0 ∨ k = 1 ∨ k = 2) with h | h | h
            · have := g1 h; omega
            · have := g2 h; omega
            · have := g3 h; omega
          have hor : bits .or .i32 (r * 64) (x % 64) = r * 64 + x % 64 := i32_or6 _ _ (by omega) (by omega) (by omega) (by omega) (by omega)
          have hand : bits .and .u8 x 63 = x % 64 := u8_and63 _ hx0 (by omega)
          have hlt' : (k : Int) < (u.length : Int) := by omega
          rw [HL.out] at hlt'
          have hlt2 := hlt'
          go_wp2
          go_round
          case rel => exact ⟨k + 1, _, rfl, by go_num, by omega, by omega, by show V = _; rw [HK.out, HS.out], by
            have g := HKB.out
            refine ⟨fun h => by omega, fun h => ?_, fun h => ?_⟩
            · have := g.1 (by omega); omega
            · have := g.2.1 (by omega); omega⟩
          case measure => simp [RowKit.intOf]; omega
        · obtain rfl : k = u.length := by omega
          rw [List.drop_length] at HK
          rw [HL.out]
          go_wp2
          go_ret
          exact ⟨ret_int HK.out.symm, HW.out⟩
end Go.Proofs.YtpnbkecchfhimaaGreatDoor.S1
end

/- out of Read -/
section
namespace Go.Proofs.YtpnbkecchfhimaaGreatDoor.S1
open Go.RowKit
open Go.Lib

theorem ret_r3 {r r' n n' : Int} {b b' : Bool} (h1 : r = r') (h2 : n = n') (h3 : b = b') : Ending.returned (.tuple #[.int .i32 r, .int .i64 n, .bool b]) = .returned (.tuple #[.int .i32 r', .int .i64 n', .bool b']) := by
  subst h1 h2 h3; rfl
theorem ret_r2 {r r' n n' : Int} (h1 : r = r') (h2 : n = n') : Ending.returned (.tuple #[.int .i32 r, .int .i64 n]) = .returned (.tuple #[.int .i32 r', .int .i64 n']) := by
  subst h1 h2; rfl

theorem there_at (b off len cap : Nat) (zs : List Int) (n lo hi : Int) (w : World) (hl : zs.length = len) (hn1 : 1 ≤ n) (hn4 : n ≤ 4) (hz : 0 < len) (hcap : len ≤ 9223372036854775807) (hrow : BRow w b off zs) :
    Calls Tryz.prog 143 #[.slice (some ⟨b, off, none⟩) len cap, .int .i64 n, .int .u8 lo, .int .u8 hi] w fun e w' => e = .returned (.int .i64 ((thereGo (zs.drop 1) (n.toNat - 1) lo hi + 1 : Nat) : Int)) ∧ w = w' := by
  subst hl
  obtain ⟨m, rfl⟩ := Int.eq_ofNat_of_zero_le (by omega : 0 ≤ n)
  rw [Int.toNat_natCast]
  exact there_any b off cap zs m lo hi w (by omega) (by omega) hz hcap hrow

theorem value_at (b off len cap : Nat) (zs : List Int) (w : World) (hl : zs.length = len) (hz1 : 1 ≤ len) (hz4 : len ≤ 4) (hcap : len ≤ cap) (hrow : BRow w b off zs) (hb : Bytes zs) :
    Calls Tryz.prog 144 #[.slice (some ⟨b, off, none⟩) len cap] w fun e w' => e = .returned (.int .i32 (valueF zs)) ∧ ∃ q, w' = w.drewN q := by
  subst hl
  exact value_any b off cap zs w hz1 hz4 hcap hrow hb

/-- A slice of bytes that reads as a list. -/
def SB (w : World) (a : Option Addr) (cap : Nat) (zs : List Int) : Prop :=
  zs.length ≤ cap ∧ cap ≤ 9223372036854775807 ∧ Bytes zs ∧ (zs = [] ∨ ∃ b off, a = some ⟨b, off, none⟩ ∧ b < w.heap.size ∧ BRow w b off zs)

theorem SB.below {w w' : World} {B : Nat} {a : Option Addr} {cap : Nat} {zs : List Int} (h : SB w a cap zs) (hb : Below B w w') (hB : w.heap.size ≤ B) : SB w' a cap zs := by
  obtain ⟨h1, h2, h3, h4⟩ := h
  refine ⟨h1, h2, h3, ?_⟩
  rcases h4 with h | ⟨b, off, ha, hlt, hr⟩
  · exact .inl h
  · exact .inr ⟨b, off, ha, by have := hb.size; omega, hr.below hb (by omega)⟩

def readAt (zs : List Int) (i : Int) : Int × Nat × Bool := if 0 ≤ i ∧ i < zs.length then readF (zs.drop i.toNat) else (0, 0, false)

theorem needN_cases (c : Int) : needN c = 0 ∨ (1 ≤ needN c ∧ needN c ≤ 4) := by
  unfold needN
  repeat' split
  all_goals omega

set_option maxHeartbeats 4000000 in
theorem read_any (a : Option Addr) (cap : Nat) (zs : List Int) (i : Int) (w : World) (hs : SB w a cap zs) :
    Calls Tryz.prog 99 #[.slice a zs.length cap, .int .i64 i] w fun e w' => e = .returned (.tuple #[.int .i32 (readAt zs i).1, .int .i64 (readAt zs i).2.1, .bool (readAt zs i).2.2]) ∧ ∃ q, w' = w.drewN q := by
  obtain ⟨h1, h2, h3, h4⟩ := hs
  by_cases hi0 : i < 0
  · have HE := Lib.hid (show readAt zs i = (0, 0, false) by rw [readAt, if_neg (by omega)])
    generalize readAt zs i = R at *
    clear h3 h4
    go_enter Tryz.func99, Tryz.ntmps99
    go_wp2
    go_ret3
    exact ⟨by rw [HE.out]; rfl, 0, rfl⟩
  by_cases hi1 : (zs.length : Int) ≤ i
  · have HE := Lib.hid (show readAt zs i = (0, 0, false) by rw [readAt, if_neg (by omega)])
    generalize readAt zs i = R at *
    clear h3 h4
    go_enter Tryz.func99, Tryz.ntmps99
    go_wp2
    go_ret3
    exact ⟨by rw [HE.out]; rfl, 0, rfl⟩
  obtain ⟨k, rfl⟩ := Int.eq_ofNat_of_zero_le (by omega : 0 ≤ i)
  have hk : k < zs.length := by omega
  rcases h4 with rfl | ⟨b, off, rfl, hb, hrow⟩
  · simp at hk
  have HE : Hid (readAt zs k = readF (zs.drop k)) := by
    show _ = _
    rw [readAt, if_pos (by omega), Int.toNat_natCast]
  generalize readAt zs k = R at *
  have hrd := hrow.drop k
  have hbd := h3.drop k
  have hc := hrow k hk
  have hbc := h3.get hk
  have hcons : zs.drop k = zs.getD k 0 :: zs.drop (k + 1) := by
    rw [List.drop_eq_getElem_cons hk, List.getD_eq_getElem?_getD, List.getElem?_eq_getElem hk]; rfl
  rw [hcons] at hrd hbd HE
  have hlen : (zs.getD k 0 :: zs.drop (k + 1)).length = zs.length - k := by simp; omega
  generalize zs.getD k 0 = c at *
  generalize zs.drop (k + 1) = t at *
  obtain ⟨hc0, hc1⟩ := hbc
  have HRD := Lib.hid hrd
  have HBD := Lib.hid hbd
  have HLEN := Lib.hid hlen
  clear hrd hbd hlen hcons h3 hrow hb
  have hk' : (k : Int) < (zs.length : Int) := by omega
  have hkc : k < cap := by omega
  generalize zs.length = len at *
  have hpos : 0 < len - k := by omega
  rcases needN_cases c with hn | ⟨hn1, hn4⟩
  · have HN : Hid (readF (c :: t) = (65533, 1, false)) := by
      show _ = _
      unfold readF
      simp only
      rw [if_pos hn]
    go_enter Tryz.func99, Tryz.ntmps99
    go_wp2_with (go_at_call 142; refine (need_any c hc0 hc1 _).mono ?_; rintro e w' ⟨rfl, rfl⟩)
    go_ret3
    exact ⟨by rw [HE.out, HN.out]; rfl, 0, rfl⟩
  · have hne : (needN c == 0) = false := by simp; omega
    by_cases hlt : ((thereGo t ((needN c).toNat - 1) (needLo c) (needHi c) + 1 : Nat) : Int) < needN c
    · have HN : Hid (readF (c :: t) = (65533, thereGo t ((needN c).toNat - 1) (needLo c) (needHi c) + 1, false)) := by
        show _ = _
        unfold readF
        simp only
        rw [if_neg (by omega), if_pos hlt]
      have hth := fun w hr => there_at b (off + k) (len - k) (cap - k) (c :: t) (needN c) (needLo c) (needHi c) w HLEN.out hn1 hn4 hpos (by omega) hr
      rw [show (c :: t).drop 1 = t from rfl] at hth
      have HTH := Lib.hid hth
      clear hth
      generalize thereGo t ((needN c).toNat - 1) (needLo c) (needHi c) + 1 = T at *
      go_enter Tryz.func99, Tryz.ntmps99
      go_wp2_with (first
        | (go_at_call 142; refine (need_any c hc0 hc1 _).mono ?_; rintro e w' ⟨rfl, rfl⟩)
        | (go_at_call 143; refine (HTH.out _ HRD.out).mono ?_; rintro e w' ⟨rfl, rfl⟩))
      go_ret3
      exact ⟨by rw [HE.out, HN.out]; rfl, 0, rfl⟩
    · have HN : Hid (readF (c :: t) = (valueF ((c :: t).take (needN c).toNat), (needN c).toNat, true)) := by
        show _ = _
        unfold readF
        simp only
        rw [if_neg (by omega), if_neg hlt]
      have hth := fun w hr => there_at b (off + k) (len - k) (cap - k) (c :: t) (needN c) (needLo c) (needHi c) w HLEN.out hn1 hn4 hpos (by omega) hr
      rw [show (c :: t).drop 1 = t from rfl] at hth
      have HTH := Lib.hid hth
      clear hth
      have htl := (thereGo_le t ((needN c).toNat - 1) (needLo c) (needHi c)).1
      have hcl : (c :: t).length = t.length + 1 := rfl
      have hl2 := HLEN.out
      have hnl : (needN c).toNat ≤ len - k := by omega
      have htk : ((c :: t).take (needN c).toNat).length = (needN c).toNat := by rw [List.length_take]; omega
      have HTK := Lib.hid htk
      clear htl hcl hl2 htk
      generalize thereGo t ((needN c).toNat - 1) (needLo c) (needHi c) + 1 = T at *
      go_enter Tryz.func99, Tryz.ntmps99
      go_wp2_with (first
        | (go_at_call 142; refine (need_any c hc0 hc1 _).mono ?_; rintro e w' ⟨rfl, rfl⟩)
        | (go_at_call 143; refine (HTH.out _ HRD.out).mono ?_; rintro e w' ⟨rfl, rfl⟩))
      refine (value_at b (off + k) _ _ ((c :: t).take (needN c).toNat) _ HTK.out (by omega) (by omega) (by omega) (HRD.out.take _) (HBD.out.take _)).mono ?_
      rintro e w' ⟨rfl, q, rfl⟩
      go_wp2
      go_ret3
      have e := HE.out.trans HN.out
      exact ⟨ret_r3 (by rw [e]) (by rw [e]; show needN c = ((needN c).toNat : Int); omega) (by rw [e]), q, rfl⟩

theorem next_any (a : Option Addr) (cap : Nat) (zs : List Int) (i : Int) (w : World) (hs : SB w a cap zs) :
    Calls Tryz.prog 74 #[.slice a zs.length cap, .int .i64 i] w fun e w' => e = .returned (.tuple #[.int .i32 (readAt zs i).1, .int .i64 (readAt zs i).2.1]) ∧ ∃ q, w' = w.drewN q := by
  have h1 := read_any a cap zs i w hs
  have H1 := Lib.hid h1
  clear h1 hs
  go_enter Tryz.func74, Tryz.ntmps74
  go_wp2_with (go_at_call 99; refine H1.out.mono ?_; rintro e w' ⟨rfl, q, rfl⟩)
  go_ret2
  exact ⟨rfl, q, rfl⟩
end Go.Proofs.YtpnbkecchfhimaaGreatDoor.S1
end

/- out of ScalRef -/
section
namespace Go.Proofs.YtpnbkecchfhimaaGreatDoor.S1

/-- The value behind bytes that must be continuations. -/
def contV : List Int → Int → Option Int
  | [], v => some v
  | b :: t, v => if b < 128 ∨ 192 ≤ b then none else contV t (64 * v + b - 128)

def expand : Nat → Int → Int → Int × Int
  | 0, lo, hi => (lo, hi)
  | m + 1, lo, hi => expand m (64 * lo) (64 * hi + 63)

/-- How many bytes, the value that the first one bears, the least and the greatest value. -/
def leadB (c : Int) : Int × Int × Int × Int :=
  if 192 ≤ c ∧ c < 224 then (2, c - 192, 128, 2047) else if 224 ≤ c ∧ c < 240 then (3, c - 224, 2048, 65535) else if 240 ≤ c ∧ c < 248 then (4, c - 240, 65536, 1114111) else (0, 0, 0, 0)

def judge (n : Int) (least most : Int) (p : Int × Int) : Int × Int :=
  if p.2 < least ∨ most < p.1 ∨ (55296 ≤ p.1 ∧ p.2 ≤ 57343) then (0, 0) else (p.1, n)

def beginsF : List Int → Int × Int
  | [] => (0, 0)
  | c :: t =>
    if c < 128 then (c, 1)
    else
      let q := leadB c
      if q.1 = 0 ∨ q.1 < (t.length : Int) + 1 then (0, 0)
      else match contV t q.2.1 with
        | none => (0, 0)
        | some v => judge q.1 q.2.2.1 q.2.2.2 (expand (q.1.toNat - (t.length + 1)) v v)

/-- The document's loop: from k on, with so many rounds left, 'size' kept. -/
def atGo (l : List Int) : Nat → Nat → Nat → Int × Nat × Bool
  | 0, _, size => (65533, size, false)
  | f + 1, k, size =>
    if l.length < k then (65533, size, false)
    else
      let p := beginsF (l.take k)
      if p.2 = 0 then (65533, size, false)
      else if p.2 = (k : Int) then (p.1, p.2.toNat, true)
      else atGo l f (k + 1) k

def atF (l : List Int) : Int × Nat × Bool := atGo l 4 1 1

theorem atGo_f0 (l : List Int) (k size : Nat) : atGo l 0 k size = (65533, size, false) := rfl

/-- What the second byte must be. -/
def ok2 (c d : Int) : Prop := needLo c ≤ d ∧ d ≤ needHi c
instance (c d : Int) : Decidable (ok2 c d) := inferInstanceAs (Decidable (_ ∧ _))

theorem need2 {c : Int} (h1 : 194 ≤ c) (h2 : c ≤ 223) : needN c = 2 ∧ needLo c = 128 ∧ needHi c = 191 ∧ leadB c = (2, c - 192, 128, 2047) := by
  refine ⟨?_, ?_, ?_, ?_⟩
  · unfold needN; repeat (first | rw [if_pos (by omega)] | rw [if_neg (by omega)])
  · unfold needLo; repeat (first | rw [if_pos (by omega)] | rw [if_neg (by omega)])
  · unfold needHi; repeat (first | rw [if_pos (by omega)] | rw [if_neg (by omega)])
  · unfold leadB; repeat (first | rw [if_pos (by omega)] | rw [if_neg (by omega)])
theorem need3 {c : Int} (h1 : 224 ≤ c) (h2 : c ≤ 239) : needN c = 3 ∧ needLo c = (if c = 224 then 160 else 128) ∧ needHi c = (if c = 237 then 159 else 191) ∧ leadB c = (3, c - 224, 2048, 65535) := by
  refine ⟨?_, ?_, ?_, ?_⟩
  · unfold needN; repeat (first | rw [if_pos (by omega)] | rw [if_neg (by omega)])
  · unfold needLo
    by_cases h : c = 224
    · rw [if_pos h, if_pos h]
    · rw [if_neg h, if_neg h, if_neg (by omega)]
  · unfold needHi
    by_cases h : c = 237
    · rw [if_pos h, if_pos h]
    · rw [if_neg h, if_neg h, if_neg (by omega)]
  · unfold leadB; repeat (first | rw [if_pos (by omega)] | rw [if_neg (by omega)])
theorem need4 {c : Int} (h1 : 240 ≤ c) (h2 : c ≤ 244) : needN c = 4 ∧ needLo c = (if c = 240 then 144 else 128) ∧ needHi c = (if c = 244 then 143 else 191) ∧ leadB c = (4, c - 240, 65536, 1114111) := by
  refine ⟨?_, ?_, ?_, ?_⟩
  · unfold needN; repeat (first | rw [if_pos (by omega)] | rw [if_neg (by omega)])
  · unfold needLo; repeat (first | rw [if_pos (by omega)] | rw [if_neg (by omega)])
  · unfold needHi; repeat (first | rw [if_pos (by omega)] | rw [if_neg (by omega)])
  · unfold leadB; repeat (first | rw [if_pos (by omega)] | rw [if_neg (by omega)])

theorem judge_no {n least most : Int} {p : Int × Int} (h : p.2 < least ∨ most < p.1 ∨ (55296 ≤ p.1 ∧ p.2 ≤ 57343)) : judge n least most p = (0, 0) := by unfold judge; rw [if_pos h]
theorem judge_yes {n least most : Int} {p : Int × Int} (h : ¬ (p.2 < least ∨ most < p.1 ∨ (55296 ≤ p.1 ∧ p.2 ≤ 57343))) : judge n least most p = (p.1, n) := by unfold judge; rw [if_neg h]

theorem beg_shape {c n v least most : Int} {t : List Int} (hc : ¬ c < 128) (hl : leadB c = (n, v, least, most)) (_hn : n ≠ 0) (ht : (t.length : Int) + 1 ≤ n) :
    beginsF (c :: t) = match contV t v with | none => (0, 0) | some x => judge n least most (expand (n.toNat - (t.length + 1)) x x) := by
  rw [beginsF, if_neg hc]
  simp only [hl]
  rw [if_neg (by omega)]

theorem cont1 {d v : Int} : contV [d] v = if d < 128 ∨ 192 ≤ d then none else some (64 * v + d - 128) := rfl
theorem cont_bad {d v : Int} {t : List Int} (h : d < 128 ∨ 192 ≤ d) : contV (d :: t) v = none := by
  show (if _ then _ else _) = _
  rw [if_pos h]
theorem cont_ok {d v : Int} {t : List Int} (h : ¬ (d < 128 ∨ 192 ≤ d)) : contV (d :: t) v = contV t (64 * v + d - 128) := by
  show (if _ then _ else _) = _
  rw [if_neg h]

/-- One byte. -/
theorem beg1_small {c : Int} (h : c < 128) (t : List Int) : beginsF (c :: t) = (c, 1) := by rw [beginsF, if_pos h]
theorem beg1_no {c : Int} (h1 : 128 ≤ c) (h2 : c < 194 ∨ 245 ≤ c) : (beginsF [c]).2 = 0 := by
  by_cases a : c < 192 ∨ 248 ≤ c
  · rw [beginsF, if_neg (by omega)]
    have : leadB c = (0, 0, 0, 0) := by unfold leadB; rw [if_neg (by omega), if_neg (by omega), if_neg (by omega)]
    simp [this]
  · by_cases b : c < 194
    · rw [beg_shape (n := 2) (v := c - 192) (least := 128) (most := 2047) (by omega) (by unfold leadB; rw [if_pos (by omega)]) (by omega) (by simp)]
      show (judge 2 128 2047 (64 * (c - 192), 64 * (c - 192) + 63)).2 = 0
      rw [judge_no (by simp only; omega)]
    · rw [beg_shape (n := 4) (v := c - 240) (least := 65536) (most := 1114111) (by omega) (by unfold leadB; rw [if_neg (by omega), if_neg (by omega), if_pos (by omega)]) (by omega) (by simp)]
      show (judge 4 65536 1114111 (64 * (64 * (64 * (c - 240))), 64 * (64 * (64 * (c - 240) + 63) + 63) + 63)).2 = 0
      rw [judge_no (by simp only; omega)]
theorem beg1_yes {c : Int} (h1 : 194 ≤ c) (h2 : c ≤ 244) : (beginsF [c]).2 = needN c := by
  by_cases a : c ≤ 223
  · obtain ⟨e1, _, _, e4⟩ := need2 h1 a
    rw [beg_shape (by omega) e4 (by omega) (by simp), e1]
    show (judge 2 128 2047 (64 * (c - 192), 64 * (c - 192) + 63)).2 = 2
    rw [judge_yes (by simp only; omega)]
  · by_cases b : c ≤ 239
    · obtain ⟨e1, _, _, e4⟩ := need3 (by omega) b
      rw [beg_shape (by omega) e4 (by omega) (by simp), e1]
      show (judge 3 2048 65535 (64 * (64 * (c - 224)), 64 * (64 * (c - 224) + 63) + 63)).2 = 3
      rw [judge_yes (by simp only; omega)]
    · obtain ⟨e1, _, _, e4⟩ := need4 (by omega) h2
      rw [beg_shape (by omega) e4 (by omega) (by simp), e1]
      show (judge 4 65536 1114111 (64 * (64 * (64 * (c - 240))), 64 * (64 * (64 * (c - 240) + 63) + 63) + 63)).2 = 4
      rw [judge_yes (by simp only; omega)]

/-- Two bytes. -/
theorem beg2_no {c d : Int} (h1 : 194 ≤ c) (h2 : c ≤ 244) (hd : 0 ≤ d ∧ d ≤ 255) (h : ¬ ok2 c d) : (beginsF [c, d]).2 = 0 := by
  unfold ok2 at h
  by_cases a : c ≤ 223
  · obtain ⟨e1, e2, e3, e4⟩ := need2 h1 a
    rw [e2, e3] at h
    rw [beg_shape (by omega) e4 (by omega) (by simp), cont_bad (by omega)]
  · by_cases b : c ≤ 239
    · obtain ⟨e1, e2, e3, e4⟩ := need3 (by omega) b
      rw [beg_shape (by omega) e4 (by omega) (by simp)]
      by_cases g : d < 128 ∨ 192 ≤ d
      · rw [cont_bad g]
      · rw [cont_ok g]
        show (judge 3 2048 65535 (64 * (64 * (c - 224) + d - 128), 64 * (64 * (c - 224) + d - 128) + 63)).2 = 0
        rw [e2, e3] at h
        rw [judge_no]
        simp only
        split at h <;> split at h <;> omega
    · obtain ⟨e1, e2, e3, e4⟩ := need4 (by omega) h2
      rw [beg_shape (by omega) e4 (by omega) (by simp)]
      by_cases g : d < 128 ∨ 192 ≤ d
      · rw [cont_bad g]
      · rw [cont_ok g]
        show (judge 4 65536 1114111 (64 * (64 * (64 * (c - 240) + d - 128)), 64 * (64 * (64 * (c - 240) + d - 128) + 63) + 63)).2 = 0
        rw [e2, e3] at h
        rw [judge_no]
        simp only
        split at h <;> split at h <;> omega
theorem beg2_yes {c d : Int} (h1 : 194 ≤ c) (h2 : c ≤ 244) (h : ok2 c d) : (beginsF [c, d]).2 = needN c ∧ (c ≤ 223 → (beginsF [c, d]).1 = c % 32 * 64 + d % 64) := by
  unfold ok2 at h
  by_cases a : c ≤ 223
  · obtain ⟨e1, e2, e3, e4⟩ := need2 h1 a
    rw [e2, e3] at h
    rw [beg_shape (by omega) e4 (by omega) (by simp), cont_ok (by omega), e1]
    show (judge 2 128 2047 (64 * (c - 192) + d - 128, 64 * (c - 192) + d - 128)).2 = 2 ∧ (c ≤ 223 → (judge 2 128 2047 (64 * (c - 192) + d - 128, 64 * (c - 192) + d - 128)).1 = _)
    rw [judge_yes (by simp only; omega)]
    exact ⟨rfl, fun _ => by simp only; omega⟩
  · refine ⟨?_, fun h => absurd h a⟩
    by_cases b : c ≤ 239
    · obtain ⟨e1, e2, e3, e4⟩ := need3 (by omega) b
      rw [e2, e3] at h
      have hd : 128 ≤ d ∧ d ≤ 191 := by split at h <;> split at h <;> omega
      rw [beg_shape (by omega) e4 (by omega) (by simp), cont_ok (by omega), e1]
      show (judge 3 2048 65535 (64 * (64 * (c - 224) + d - 128), 64 * (64 * (c - 224) + d - 128) + 63)).2 = 3
      rw [judge_yes]
      simp only
      split at h <;> split at h <;> omega
    · obtain ⟨e1, e2, e3, e4⟩ := need4 (by omega) h2
      rw [e2, e3] at h
      have hd : 128 ≤ d ∧ d ≤ 191 := by split at h <;> split at h <;> omega
      rw [beg_shape (by omega) e4 (by omega) (by simp), cont_ok (by omega), e1]
      show (judge 4 65536 1114111 (64 * (64 * (64 * (c - 240) + d - 128)), 64 * (64 * (64 * (c - 240) + d - 128) + 63) + 63)).2 = 4
      rw [judge_yes]
      simp only
      split at h <;> split at h <;> omega

/-- Three bytes. -/
theorem beg3_no {c d e : Int} (h1 : 224 ≤ c) (h2 : c ≤ 244) (h : ok2 c d) (he : ¬ (128 ≤ e ∧ e ≤ 191)) : (beginsF [c, d, e]).2 = 0 := by
  unfold ok2 at h
  by_cases b : c ≤ 239
  · obtain ⟨e1, e2, e3, e4⟩ := need3 (by omega) b
    rw [e2, e3] at h
    have hd : 128 ≤ d ∧ d ≤ 191 := by split at h <;> split at h <;> omega
    rw [beg_shape (by omega) e4 (by omega) (by simp), cont_ok (by omega), cont_bad (by omega)]
  · obtain ⟨e1, e2, e3, e4⟩ := need4 (by omega) h2
    rw [e2, e3] at h
    have hd : 128 ≤ d ∧ d ≤ 191 := by split at h <;> split at h <;> omega
    rw [beg_shape (by omega) e4 (by omega) (by simp), cont_ok (by omega), cont_bad (by omega)]
theorem beg3_yes {c d e : Int} (h1 : 224 ≤ c) (h2 : c ≤ 244) (h : ok2 c d) (he : 128 ≤ e ∧ e ≤ 191) : (beginsF [c, d, e]).2 = needN c ∧ (c ≤ 239 → (beginsF [c, d, e]).1 = (c % 16 * 64 + d % 64) * 64 + e % 64) := by
  unfold ok2 at h
  by_cases b : c ≤ 239
  · obtain ⟨e1, e2, e3, e4⟩ := need3 (by omega) b
    rw [e2, e3] at h
    have hd : 128 ≤ d ∧ d ≤ 191 := by split at h <;> split at h <;> omega
    rw [beg_shape (by omega) e4 (by omega) (by simp), cont_ok (by omega), cont_ok (by omega), e1]
    show (judge 3 2048 65535 (64 * (64 * (c - 224) + d - 128) + e - 128, 64 * (64 * (c - 224) + d - 128) + e - 128)).2 = 3 ∧ (c ≤ 239 → (judge 3 2048 65535 (64 * (64 * (c - 224) + d - 128) + e - 128, 64 * (64 * (c - 224) + d - 128) + e - 128)).1 = _)
    rw [judge_yes]
    · exact ⟨rfl, fun _ => by simp only; omega⟩
    · simp only
      split at h <;> split at h <;> omega
  · refine ⟨?_, fun h => absurd h b⟩
    obtain ⟨e1, e2, e3, e4⟩ := need4 (by omega) h2
    rw [e2, e3] at h
    have hd : 128 ≤ d ∧ d ≤ 191 := by split at h <;> split at h <;> omega
    rw [beg_shape (by omega) e4 (by omega) (by simp), cont_ok (by omega), cont_ok (by omega), e1]
    show (judge 4 65536 1114111 (64 * (64 * (64 * (c - 240) + d - 128) + e - 128), 64 * (64 * (64 * (c - 240) + d - 128) + e - 128) + 63)).2 = 4
    rw [judge_yes]
    simp only
    split at h <;> split at h <;> omega

/-- Four bytes. -/
theorem beg4_no {c d e f : Int} (h1 : 240 ≤ c) (h2 : c ≤ 244) (h : ok2 c d) (he : 128 ≤ e ∧ e ≤ 191) (hf : ¬ (128 ≤ f ∧ f ≤ 191)) : (beginsF [c, d, e, f]).2 = 0 := by
  unfold ok2 at h
  obtain ⟨e1, e2, e3, e4⟩ := need4 (by omega) h2
  rw [e2, e3] at h
  have hd : 128 ≤ d ∧ d ≤ 191 := by split at h <;> split at h <;> omega
  rw [beg_shape (by omega) e4 (by omega) (by simp), cont_ok (by omega), cont_ok (by omega), cont_bad (by omega)]
theorem beg4_yes {c d e f : Int} (h1 : 240 ≤ c) (h2 : c ≤ 244) (h : ok2 c d) (he : 128 ≤ e ∧ e ≤ 191) (hf : 128 ≤ f ∧ f ≤ 191) : beginsF [c, d, e, f] = (((c % 8 * 64 + d % 64) * 64 + e % 64) * 64 + f % 64, 4) := by
  unfold ok2 at h
  obtain ⟨e1, e2, e3, e4⟩ := need4 (by omega) h2
  rw [e2, e3] at h
  have hd : 128 ≤ d ∧ d ≤ 191 := by split at h <;> split at h <;> omega
  rw [beg_shape (by omega) e4 (by omega) (by simp), cont_ok (by omega), cont_ok (by omega), cont_ok (by omega)]
  show judge 4 65536 1114111 (64 * (64 * (64 * (c - 240) + d - 128) + e - 128) + f - 128, 64 * (64 * (64 * (c - 240) + d - 128) + e - 128) + f - 128) = _
  rw [judge_yes]
  · simp only [Prod.mk.injEq, and_true]
    omega
  · simp only
    split at h <;> split at h <;> omega

/-- One round of the document's loop. -/
theorem atGo_short {l : List Int} {f k size : Nat} (h : l.length < k) : atGo l (f + 1) k size = (65533, size, false) := by
  show (if _ then _ else _) = _
  rw [if_pos h]
theorem atGo_none {l : List Int} {f k size : Nat} (h : ¬ l.length < k) (h0 : (beginsF (l.take k)).2 = 0) : atGo l (f + 1) k size = (65533, size, false) := by
  show (if _ then _ else _) = _
  rw [if_neg h]
  simp only
  rw [if_pos h0]
theorem atGo_hit {l : List Int} {f k size : Nat} (h : ¬ l.length < k) (h0 : (beginsF (l.take k)).2 = (k : Int)) (hk : 0 < k) : atGo l (f + 1) k size = ((beginsF (l.take k)).1, k, true) := by
  show (if _ then _ else _) = _
  rw [if_neg h]
  simp only
  rw [if_neg (by omega), if_pos h0, h0, Int.toNat_natCast]
theorem atGo_on {l : List Int} {f k size : Nat} (h : ¬ l.length < k) (h0 : (beginsF (l.take k)).2 ≠ 0) (h1 : (beginsF (l.take k)).2 ≠ (k : Int)) : atGo l (f + 1) k size = atGo l f (k + 1) k := by
  show (if _ then _ else _) = _
  rw [if_neg h]
  simp only
  rw [if_neg h0, if_neg h1]

theorem readF_no {c : Int} {t : List Int} (h : needN c = 0) : readF (c :: t) = (65533, 1, false) := by
  unfold readF
  simp only
  rw [if_pos h]
theorem readF_cut {c : Int} {t : List Int} (h : needN c ≠ 0) (hk : ((thereGo t ((needN c).toNat - 1) (needLo c) (needHi c) + 1 : Nat) : Int) < needN c) :
    readF (c :: t) = (65533, thereGo t ((needN c).toNat - 1) (needLo c) (needHi c) + 1, false) := by
  unfold readF
  simp only
  rw [if_neg h, if_pos hk]
theorem readF_whole {c : Int} {t : List Int} (h : needN c ≠ 0) (hk : ¬ ((thereGo t ((needN c).toNat - 1) (needLo c) (needHi c) + 1 : Nat) : Int) < needN c) :
    readF (c :: t) = (valueF ((c :: t).take (needN c).toNat), (needN c).toNat, true) := by
  unfold readF
  simp only
  rw [if_neg h, if_neg hk]

theorem there_nil (m : Nat) (lo hi : Int) : thereGo [] m lo hi = 0 := rfl
theorem there_bad {d : Int} {t : List Int} {m : Nat} {lo hi : Int} (h : ¬ (lo ≤ d ∧ d ≤ hi)) : thereGo (d :: t) (m + 1) lo hi = 0 := by
  show (if _ then _ else _) = _
  rw [if_neg h]
theorem there_ok {d : Int} {t : List Int} {m : Nat} {lo hi : Int} (h : lo ≤ d ∧ d ≤ hi) : thereGo (d :: t) (m + 1) lo hi = thereGo t m 128 191 + 1 := by
  show (if _ then _ else _) = _
  rw [if_pos h]
theorem there_0 (t : List Int) (lo hi : Int) : thereGo t 0 lo hi = 0 := by cases t <;> rfl

theorem atF_eq (l : List Int) (h0 : l ≠ []) (hb : ∀ x ∈ l, 0 ≤ x ∧ x ≤ 255) : atF l = readF l := by
  unfold atF
  match l, h0 with
  | c :: t, _ =>
    have hc := hb c (by simp)
    by_cases c1 : c < 128
    · have hn : needN c = 1 := by unfold needN; rw [if_pos c1]
      rw [atGo_hit (by simp) (by simp [beg1_small c1]) (by omega), readF_whole (by omega) (by rw [hn]; simp [there_0])]
      simp [beg1_small c1, hn, valueF]
    by_cases c2 : c < 194 ∨ 245 ≤ c
    · have hn : needN c = 0 := by unfold needN; rw [if_neg (by omega), if_neg (by omega), if_neg (by omega), if_neg (by omega)]
      rw [atGo_none (by simp) (by simpa using beg1_no (by omega) c2), readF_no hn]
    have h1 : 194 ≤ c := by omega
    have h2 : c ≤ 244 := by omega
    have hb1 := beg1_yes h1 h2
    have hn2 : 2 ≤ needN c ∧ needN c ≤ 4 := by
      by_cases a : c ≤ 223
      · have := (need2 h1 a).1; omega
      · by_cases b : c ≤ 239
        · have := (need3 (by omega) b).1; omega
        · have := (need4 (by omega) h2).1; omega
    obtain ⟨m, hm⟩ : ∃ m : Nat, (needN c).toNat - 1 = m + 1 := ⟨(needN c).toNat - 2, by omega⟩
    rw [atGo_on (by simp) (by simp; omega) (by simp; omega)]
    match t, hb with
    | [], _ =>
      rw [atGo_short (by simp), readF_cut (by omega) (by rw [there_nil]; omega), there_nil]
    | d :: t, hb =>
      have hd := hb d (by simp)
      by_cases o2 : ok2 c d
      case neg =>
        rw [atGo_none (by simp) (by simpa using beg2_no h1 h2 hd o2), readF_cut (by omega) (by rw [hm, there_bad o2]; omega), hm, there_bad o2]
      obtain ⟨hb2, hv2⟩ := beg2_yes h1 h2 o2
      by_cases a : c ≤ 223
      · have hn : needN c = 2 := (need2 h1 a).1
        obtain rfl : m = 0 := by omega
        rw [atGo_hit (by simp) (by simp; omega) (by omega), readF_whole (by omega) (by rw [hm, there_ok o2, there_0, hn]; simp)]
        have := hv2 a
        simp [this, hn, valueF, contGo, leadOf]
      have hn3 : 3 ≤ needN c := by
        by_cases b : c ≤ 239
        · have := (need3 (by omega) b).1; omega
        · have := (need4 (by omega) h2).1; omega
      obtain ⟨m, rfl⟩ : ∃ m' : Nat, m = m' + 1 := ⟨m - 1, by omega⟩
      rw [atGo_on (by simp) (by simp; omega) (by simp; omega)]
      match t, hb with
      | [], _ =>
        rw [atGo_short (by simp), readF_cut (by omega) (by rw [hm, there_ok o2, there_nil]; omega), hm, there_ok o2, there_nil]
      | e :: t, hb =>
        have he := hb e (by simp)
        by_cases o3 : 128 ≤ e ∧ e ≤ 191
        case neg =>
          rw [atGo_none (by simp) (by simpa using beg3_no (by omega) h2 o2 o3), readF_cut (by omega) (by rw [hm, there_ok o2, there_bad o3]; omega), hm, there_ok o2, there_bad o3]
        obtain ⟨hb3, hv3⟩ := beg3_yes (by omega) h2 o2 o3
        by_cases b : c ≤ 239
        · have hn : needN c = 3 := (need3 (by omega) b).1
          obtain rfl : m = 0 := by omega
          rw [atGo_hit (by simp) (by simp; omega) (by omega), readF_whole (by omega) (by rw [hm, there_ok o2, there_ok o3, there_0, hn]; simp)]
          have := hv3 b
          simp [this, hn, valueF, contGo, leadOf]
        have hn : needN c = 4 := (need4 (by omega) h2).1
        obtain rfl : m = 1 := by omega
        rw [atGo_on (by simp) (by simp; omega) (by simp; omega)]
        match t, hb with
        | [], _ =>
          rw [atGo_short (by simp), readF_cut (by omega) (by rw [hm, there_ok o2, there_ok o3, there_nil]; omega), hm, there_ok o2, there_ok o3, there_nil]
        | f :: t, hb =>
          have hf := hb f (by simp)
          by_cases o4 : 128 ≤ f ∧ f ≤ 191
          case neg =>
            rw [atGo_none (by simp) (by simpa using beg4_no (by omega) h2 o2 o3 o4), readF_cut (by omega) (by rw [hm, there_ok o2, there_ok o3, there_bad o4]; omega), hm, there_ok o2, there_ok o3, there_bad o4]
          have hb4 := beg4_yes (by omega) h2 o2 o3 o4
          rw [atGo_hit (by simp) (by simp [hb4]) (by omega), readF_whole (by omega) (by rw [hm, there_ok o2, there_ok o3, there_ok o4, there_0, hn]; simp)]
          simp [hb4, hn, valueF, contGo, leadOf]
end Go.Proofs.YtpnbkecchfhimaaGreatDoor.S1
end

/- out of Begins -/
section
namespace Go.Proofs.YtpnbkecchfhimaaGreatDoor.S1
open Go.RowKit
open Go.Lib

theorem contV_step {t : List Int} {k : Nat} {v b : Int} (h : t[k]? = some b) : contV (t.drop k) v = if b < 128 ∨ 192 ≤ b then none else contV (t.drop (k + 1)) (64 * v + b - 128) := by
  obtain ⟨hlt, rfl⟩ := List.getElem?_eq_some_iff.1 h
  rw [List.drop_eq_getElem_cons hlt]
  rfl

def bnd (i : Nat) (v : Int) : Prop := 0 ≤ v ∧ (i = 1 → v < 32) ∧ (i = 2 → v < 2048) ∧ (i = 3 → v < 131072) ∧ (i = 4 → v < 8388608)

theorem bnd.le {i : Nat} {v : Int} (h : bnd i v) (h1 : 1 ≤ i) (h4 : i ≤ 4) : 0 ≤ v ∧ v < 8388608 ∧ (i < 4 → v < 131072) := by
  obtain ⟨h0, g1, g2, g3, g4⟩ := h
  rcases (by omega : i = 1 ∨ i = 2 ∨ i = 3 ∨ i = 4) with h | h | h | h
  · have := g1 h; omega
  · have := g2 h; omega
  · have := g3 h; omega
  · have := g4 h; omega
theorem bnd.step {i : Nat} {v b : Int} (h : bnd i v) (h1 : 1 ≤ i) (h4 : i < 4) (hb0 : 0 ≤ b) (hb1 : b < 64) : bnd (i + 1) (64 * v + b) := by
  obtain ⟨h0, g1, g2, g3, g4⟩ := h
  rcases (by omega : i = 1 ∨ i = 2 ∨ i = 3) with h | h | h
  · have := g1 h; exact ⟨by omega, by omega, by omega, by omega, by omega⟩
  · have := g2 h; exact ⟨by omega, by omega, by omega, by omega, by omega⟩
  · have := g3 h; exact ⟨by omega, by omega, by omega, by omega, by omega⟩

set_option maxHeartbeats 8000000 in
theorem begins_any (b off len cap : Nat) (zs : List Int) (w : World) (hl : zs.length = len) (hz1 : 1 ≤ len) (hz4 : len ≤ 4) (hrow : BRow w b off zs) (hb : Bytes zs) :
    Calls Tryz.prog 113 #[.slice (some ⟨b, off, none⟩) len cap] w fun e w' => e = .returned (.tuple #[.int .i32 (beginsF zs).1, .int .i64 (beginsF zs).2]) ∧ w = w' := by
  match zs, hl, hrow, hb with
  | [], hl, _, _ => simp at hl; omega
  | c :: t, hl, hrow, hb =>
    have hc := hrow 0 (by simp)
    have hb0 := hb.get (i := 0) (by simp)
    simp at hc
    have h0 : 0 ≤ c := by simpa using hb0.1
    have h1 : c ≤ 255 := by simpa using hb0.2
    have htl : t.length + 1 = len := hl
    have hrt : BRow w b (off + 1) t := hrow.drop 1
    have hbt : Bytes t := hb.drop 1
    have HRT := Lib.hid hrt
    have HBT := Lib.hid hbt
    clear hb0 hrow hb hrt hbt hl
    have hpos : (0 : Int) < (len : Int) := by omega
    by_cases hc1 : c < 128
    · have HE := Lib.hid (show beginsF (c :: t) = (c, 1) by rw [beginsF, if_pos hc1])
      generalize beginsF (c :: t) = R at *
      clear htl
      go_enter Tryz.func113, Tryz.ntmps113
      go_wp2
      go_ret2
      exact ⟨ret_r2 (by rw [HE.out]) (by rw [HE.out]), rfl⟩
    by_cases hn0 : c < 192 ∨ 248 ≤ c
    · have HE := Lib.hid (show beginsF (c :: t) = (0, 0) by
        rw [beginsF, if_neg hc1]
        have : leadB c = (0, 0, 0, 0) := by
          unfold leadB
          rw [if_neg (by omega), if_neg (by omega), if_neg (by omega)]
        simp [this])
      generalize beginsF (c :: t) = R at *
      clear htl
      rcases hn0 with hn0 | hn0
      all_goals
        go_enter Tryz.func113, Tryz.ntmps113
        go_wp2
        go_ret2
        exact ⟨ret_r2 (by rw [HE.out]) (by rw [HE.out]), rfl⟩
    have hn : ∃ n : Nat, ∃ v least most : Int, leadB c = ((n : Int), v, least, most) ∧ ((n = 2 ∧ 192 ≤ c ∧ c < 224 ∧ v = c - 192 ∧ least = 128 ∧ most = 2047) ∨ (n = 3 ∧ 224 ≤ c ∧ c < 240 ∧ v = c - 224 ∧ least = 2048 ∧ most = 65535) ∨ (n = 4 ∧ 240 ≤ c ∧ c < 248 ∧ v = c - 240 ∧ least = 65536 ∧ most = 1114111)) := by
      by_cases a1 : c < 224
      · exact ⟨2, _, _, _, by unfold leadB; rw [if_pos (by omega)]; rfl, .inl ⟨rfl, by omega, by omega, rfl, rfl, rfl⟩⟩
      · by_cases a2 : c < 240
        · exact ⟨3, _, _, _, by unfold leadB; rw [if_neg (by omega), if_pos (by omega)]; rfl, .inr (.inl ⟨rfl, by omega, by omega, rfl, rfl, rfl⟩)⟩
        · exact ⟨4, _, _, _, by unfold leadB; rw [if_neg (by omega), if_neg (by omega), if_pos (by omega)]; rfl, .inr (.inr ⟨rfl, by omega, by omega, rfl, rfl, rfl⟩)⟩
    obtain ⟨n, v, least, most, hlead, hcases⟩ := hn
    have HE : Hid (beginsF (c :: t) = if n < len then (0, 0) else match contV t v with | none => (0, 0) | some x => judge n least most (expand (n - len) x x)) := by
      show _ = _
      rw [beginsF, if_neg hc1]
      simp only [hlead, Int.toNat_natCast]
      have hn0 : ¬ (n : Int) = 0 := by omega
      by_cases hx : n < len
      · rw [if_pos (.inr (by omega)), if_pos hx]
      · rw [if_neg (by omega), if_neg hx, htl]
        all_goals (cases contV t v <;> rfl)
    generalize beginsF (c :: t) = R at *
    have hbv : bnd 1 v := ⟨by omega, by omega, by omega, by omega, by omega⟩
    have hn24 : 2 ≤ n ∧ n ≤ 4 := by omega
    obtain ⟨hn2, hn4⟩ := hn24
    have HBV := Lib.hid hbv
    clear hbv hlead hn0 hc1
    have HTL := Lib.hid htl
    clear htl
    rcases hcases with ⟨rfl, a1, a2, rfl, rfl, rfl⟩ | ⟨rfl, a1, a2, rfl, rfl, rfl⟩ | ⟨rfl, a1, a2, rfl, rfl, rfl⟩
    · by_cases hx : 2 < len
      · have HE2 := Lib.hid (show R = (0, 0) by rw [HE.out, if_pos hx])
        clear HE
        have hx' : (2 : Int) < (len : Int) := by omega
        clear HTL
        go_enter Tryz.func113, Tryz.ntmps113
        go_wp2
        go_ret2
        exact ⟨ret_r2 (by rw [HE2.out]) (by rw [HE2.out]), rfl⟩
      · have HE2 : Hid (R = match contV t (c - 192) with | none => (0, 0) | some x => judge 2 128 2047 (expand (2 - len) x x)) := by
          show _ = _
          rw [HE.out, if_neg hx]
          rfl
        clear HE
        have hx' : ¬ (2 : Int) < (len : Int) := by omega
        generalize hV : contV t (c - 192) = V at *
        have HV : Hid (V = contV (t.drop (1 - 1)) (c - 192)) := by show V = _; rw [← hV]; rfl
        clear hV
        go_enter Tryz.func113, Tryz.ntmps113
        go_wp2
        generalize c - 192 = v0 at *
        go_loop [5, 9] (fun s5 s9 => ∃ (i : Nat) (x : Int), s5 = .int .i32 x ∧ s9 = .int .i64 i ∧ 1 ≤ i ∧ i ≤ len ∧ Hid (bnd i x) ∧ Hid (V = contV (t.drop (i - 1)) x)) (fun _ s9 => len - (RowKit.intOf s9).toNat)
        case atStart => exact ⟨1, v0, rfl, rfl, Nat.le_refl _, hz1, HBV, HV⟩
        case round =>
          obtain ⟨i, x, rfl, rfl, hi1, hil, HB, HX⟩ := hrel
          clear HV HBV
          obtain ⟨hx0, hx1, hx2⟩ := HB.out.le hi1 (by omega)
          by_cases hlt : i < len
          · have hit : i - 1 < t.length := by have := HTL.out; omega
            have hci := HRT.out (i - 1) hit
            have hbi := HBT.out.get hit
            rw [show off + 1 + (i - 1) = off + i by omega] at hci
            have HS := Lib.hid (contV_step (t := t) (k := i - 1) (v := x) (b := t.getD (i - 1) 0) (by rw [List.getD_eq_getElem?_getD, List.getElem?_eq_getElem hit]; rfl))
            generalize t.getD (i - 1) 0 = y at *
            obtain ⟨hy0, hy1⟩ := hbi
            have hlt' : (i : Int) < (len : Int) := by omega
            have hx3 : x < 131072 := hx2 (by omega)
            clear hx2
            by_cases hy : y < 128 ∨ 192 ≤ y
            · have HN := Lib.hid (show R = (0, 0) by rw [HE2.out, HX.out, HS.out, if_pos hy])
              clear HS HX HE2
              rcases hy with hy | hy
              all_goals
                go_wp2
                go_ret2
                exact ⟨ret_r2 (by rw [HN.out]) (by rw [HN.out]), rfl⟩
            · have hya : ¬ y < 128 := by omega
              have hyb : ¬ 192 ≤ y := by omega
              have HB2 := Lib.hid (HB.out.step hi1 (by omega) (by omega : 0 ≤ y - 128) (by omega))
              have HX2 : Hid (V = contV (t.drop (i + 1 - 1)) (64 * x + y - 128)) := by
                show V = _
                rw [HX.out, HS.out, if_neg hy, show i - 1 + 1 = i + 1 - 1 by omega]
              clear HS HX hy
              go_wp2
              go_round
              case rel => exact ⟨i + 1, 64 * x + y - 128, rfl, by go_num, by omega, by omega, by
                show bnd (i + 1) (64 * x + y - 128)
                rw [show 64 * x + y - 128 = 64 * x + (y - 128) by omega]; exact HB2.out, HX2⟩
              case measure => simp [RowKit.intOf]; omega
          · obtain rfl : i = len := by omega
            have HN : Hid (R = judge 2 128 2047 (expand (2 - i) x x)) := by
              show R = _
              rw [HE2.out, HX.out, List.drop_eq_nil_of_le (by have := HTL.out; omega)]
              rfl
            clear HX HE2 hx2
            generalize hE : expand (2 - i) x x = E at *
            have HE := Lib.hid hE
            clear hE
            go_wp2
            go_loop [10, 11, 12] (fun s10 s11 s12 => ∃ (j : Nat) (lo hi : Int), s10 = .int .i32 lo ∧ s11 = .int .i32 hi ∧ s12 = .int .i64 j ∧ 1 ≤ j ∧ j ≤ 2 ∧ Hid (bnd j lo ∧ bnd j hi) ∧ Hid (expand (2 - j) lo hi = E)) (fun _ _ s12 => 2 - (RowKit.intOf s12).toNat)
            case atStart => exact ⟨i, x, x, rfl, rfl, rfl, hi1, by omega, ⟨HB.out, HB.out⟩, HE⟩
            case round =>
              obtain ⟨j, lo, hi, rfl, rfl, rfl, hj1, hj2, HBB, HEE⟩ := hrel
              clear HE HB hx0 hx1
              obtain ⟨hl0, hl1, hl2⟩ := HBB.out.1.le hj1 (by omega)
              obtain ⟨hh0, hh1, hh2⟩ := HBB.out.2.le hj1 (by omega)
              by_cases hlt2 : j < 2
              · have hl3 : lo < 131072 := hl2 (by omega)
                have hh3 : hi < 131072 := hh2 (by omega)
                have hlt3 : (j : Int) < 2 := by omega
                have hb1 := HBB.out.1.step hj1 (by omega) (by omega : (0 : Int) ≤ 0) (by omega)
                have hb2 := HBB.out.2.step hj1 (by omega) (by omega : (0 : Int) ≤ 63) (by omega)
                have HB2 : Hid (bnd (j + 1) (64 * lo) ∧ bnd (j + 1) (64 * hi + 63)) := ⟨by simpa using hb1, hb2⟩
                have HE3 : Hid (expand (2 - (j + 1)) (64 * lo) (64 * hi + 63) = E) := by
                  show _ = E
                  rw [← HEE.out, show 2 - j = (2 - (j + 1)) + 1 by omega]
                  rfl
                clear hb1 hb2 hl2 hh2
                go_wp2
                go_round
                case rel => exact ⟨j + 1, _, _, rfl, rfl, by go_num, by omega, by omega, HB2, HE3⟩
                case measure => simp [RowKit.intOf]; omega
              · obtain rfl : j = 2 := by omega
                have HN2 : Hid (R = judge 2 128 2047 (lo, hi)) := by
                  show R = _
                  rw [HN.out, ← HEE.out]
                  rfl
                clear HN HEE HBB hl2 hh2
                by_cases g1 : hi < 128
                · have HN3 := Lib.hid (show R = (0, 0) by rw [HN2.out, judge, if_pos (.inl g1)])
                  clear HN2
                  go_wp2
                  go_ret2
                  exact ⟨ret_r2 (by rw [HN3.out]) (by rw [HN3.out]), rfl⟩
                · by_cases g2 : 2047 < lo
                  · have HN3 := Lib.hid (show R = (0, 0) by rw [HN2.out, judge, if_pos (.inr (.inl g2))])
                    clear HN2
                    go_wp2
                    go_ret2
                    exact ⟨ret_r2 (by rw [HN3.out]) (by rw [HN3.out]), rfl⟩
                  · by_cases g3 : 55296 ≤ lo
                    · by_cases g4 : hi ≤ 57343
                      · have HN3 := Lib.hid (show R = (0, 0) by rw [HN2.out, judge, if_pos (.inr (.inr ⟨g3, g4⟩))])
                        clear HN2
                        go_wp2
                        go_ret2
                        exact ⟨ret_r2 (by rw [HN3.out]) (by rw [HN3.out]), rfl⟩
                      · have HN3 := Lib.hid (show R = (lo, 2) by rw [HN2.out, judge, if_neg (by simp only; omega)])
                        clear HN2
                        go_wp2
                        go_ret2
                        exact ⟨ret_r2 (by rw [HN3.out]) (by rw [HN3.out]), rfl⟩
                    · have HN3 := Lib.hid (show R = (lo, 2) by rw [HN2.out, judge, if_neg (by simp only; omega)])
                      clear HN2
                      go_wp2
                      go_ret2
                      exact ⟨ret_r2 (by rw [HN3.out]) (by rw [HN3.out]), rfl⟩
    · by_cases hx : 3 < len
      · have HE2 := Lib.hid (show R = (0, 0) by rw [HE.out, if_pos hx])
        clear HE
        have hx' : (3 : Int) < (len : Int) := by omega
        clear HTL
        go_enter Tryz.func113, Tryz.ntmps113
        go_wp2
        go_ret2
        exact ⟨ret_r2 (by rw [HE2.out]) (by rw [HE2.out]), rfl⟩
      · have HE2 : Hid (R = match contV t (c - 224) with | none => (0, 0) | some x => judge 3 2048 65535 (expand (3 - len) x x)) := by
          show _ = _
          rw [HE.out, if_neg hx]
          rfl
        clear HE
        have hx' : ¬ (3 : Int) < (len : Int) := by omega
        generalize hV : contV t (c - 224) = V at *
        have HV : Hid (V = contV (t.drop (1 - 1)) (c - 224)) := by show V = _; rw [← hV]; rfl
        clear hV
        go_enter Tryz.func113, Tryz.ntmps113
        go_wp2
        generalize c - 224 = v0 at *
        go_loop [5, 9] (fun s5 s9 => ∃ (i : Nat) (x : Int), s5 = .int .i32 x ∧ s9 = .int .i64 i ∧ 1 ≤ i ∧ i ≤ len ∧ Hid (bnd i x) ∧ Hid (V = contV (t.drop (i - 1)) x)) (fun _ s9 => len - (RowKit.intOf s9).toNat)
        case atStart => exact ⟨1, v0, rfl, rfl, Nat.le_refl _, hz1, HBV, HV⟩
        case round =>
          obtain ⟨i, x, rfl, rfl, hi1, hil, HB, HX⟩ := hrel
          clear HV HBV
          obtain ⟨hx0, hx1, hx2⟩ := HB.out.le hi1 (by omega)
          by_cases hlt : i < len
          · have hit : i - 1 < t.length := by have := HTL.out; omega
            have hci := HRT.out (i - 1) hit
            have hbi := HBT.out.get hit
            rw [show off + 1 + (i - 1) = off + i by omega] at hci
            have HS := Lib.hid (contV_step (t := t) (k := i - 1) (v := x) (b := t.getD (i - 1) 0) (by rw [List.getD_eq_getElem?_getD, List.getElem?_eq_getElem hit]; rfl))
            generalize t.getD (i - 1) 0 = y at *
            obtain ⟨hy0, hy1⟩ := hbi
            have hlt' : (i : Int) < (len : Int) := by omega
            have hx3 : x < 131072 := hx2 (by omega)
            clear hx2
            by_cases hy : y < 128 ∨ 192 ≤ y
            · have HN := Lib.hid (show R = (0, 0) by rw [HE2.out, HX.out, HS.out, if_pos hy])
              clear HS HX HE2
              rcases hy with hy | hy
              all_goals
                go_wp2
                go_ret2
                exact ⟨ret_r2 (by rw [HN.out]) (by rw [HN.out]), rfl⟩
            · have hya : ¬ y < 128 := by omega
              have hyb : ¬ 192 ≤ y := by omega
              have HB2 := Lib.hid (HB.out.step hi1 (by omega) (by omega : 0 ≤ y - 128) (by omega))
              have HX2 : Hid (V = contV (t.drop (i + 1 - 1)) (64 * x + y - 128)) := by
                show V = _
                rw [HX.out, HS.out, if_neg hy, show i - 1 + 1 = i + 1 - 1 by omega]
              clear HS HX hy
              go_wp2
              go_round
              case rel => exact ⟨i + 1, 64 * x + y - 128, rfl, by go_num, by omega, by omega, by
                show bnd (i + 1) (64 * x + y - 128)
                rw [show 64 * x + y - 128 = 64 * x + (y - 128) by omega]; exact HB2.out, HX2⟩
              case measure => simp [RowKit.intOf]; omega
          · obtain rfl : i = len := by omega
            have HN : Hid (R = judge 3 2048 65535 (expand (3 - i) x x)) := by
              show R = _
              rw [HE2.out, HX.out, List.drop_eq_nil_of_le (by have := HTL.out; omega)]
              rfl
            clear HX HE2 hx2
            generalize hE : expand (3 - i) x x = E at *
            have HE := Lib.hid hE
            clear hE
            go_wp2
            go_loop [10, 11, 12] (fun s10 s11 s12 => ∃ (j : Nat) (lo hi : Int), s10 = .int .i32 lo ∧ s11 = .int .i32 hi ∧ s12 = .int .i64 j ∧ 1 ≤ j ∧ j ≤ 3 ∧ Hid (bnd j lo ∧ bnd j hi) ∧ Hid (expand (3 - j) lo hi = E)) (fun _ _ s12 => 3 - (RowKit.intOf s12).toNat)
            case atStart => exact ⟨i, x, x, rfl, rfl, rfl, hi1, by omega, ⟨HB.out, HB.out⟩, HE⟩
            case round =>
              obtain ⟨j, lo, hi, rfl, rfl, rfl, hj1, hj2, HBB, HEE⟩ := hrel
              clear HE HB hx0 hx1
              obtain ⟨hl0, hl1, hl2⟩ := HBB.out.1.le hj1 (by omega)
              obtain ⟨hh0, hh1, hh2⟩ := HBB.out.2.le hj1 (by omega)
              by_cases hlt2 : j < 3
              · have hl3 : lo < 131072 := hl2 (by omega)
                have hh3 : hi < 131072 := hh2 (by omega)
                have hlt3 : (j : Int) < 3 := by omega
                have hb1 := HBB.out.1.step hj1 (by omega) (by omega : (0 : Int) ≤ 0) (by omega)
                have hb2 := HBB.out.2.step hj1 (by omega) (by omega : (0 : Int) ≤ 63) (by omega)
                have HB2 : Hid (bnd (j + 1) (64 * lo) ∧ bnd (j + 1) (64 * hi + 63)) := ⟨by simpa using hb1, hb2⟩
                have HE3 : Hid (expand (3 - (j + 1)) (64 * lo) (64 * hi + 63) = E) := by
                  show _ = E
                  rw [← HEE.out, show 3 - j = (3 - (j + 1)) + 1 by omega]
                  rfl
                clear hb1 hb2 hl2 hh2
                go_wp2
                go_round
                case rel => exact ⟨j + 1, _, _, rfl, rfl, by go_num, by omega, by omega, HB2, HE3⟩
                case measure => simp [RowKit.intOf]; omega
              · obtain rfl : j = 3 := by omega
                have HN2 : Hid (R = judge 3 2048 65535 (lo, hi)) := by
                  show R = _
                  rw [HN.out, ← HEE.out]
                  rfl
                clear HN HEE HBB hl2 hh2
                by_cases g1 : hi < 2048
                · have HN3 := Lib.hid (show R = (0, 0) by rw [HN2.out, judge, if_pos (.inl g1)])
                  clear HN2
                  go_wp2
                  go_ret2
                  exact ⟨ret_r2 (by rw [HN3.out]) (by rw [HN3.out]), rfl⟩
                · by_cases g2 : 65535 < lo
                  · have HN3 := Lib.hid (show R = (0, 0) by rw [HN2.out, judge, if_pos (.inr (.inl g2))])
                    clear HN2
                    go_wp2
                    go_ret2
                    exact ⟨ret_r2 (by rw [HN3.out]) (by rw [HN3.out]), rfl⟩
                  · by_cases g3 : 55296 ≤ lo
                    · by_cases g4 : hi ≤ 57343
                      · have HN3 := Lib.hid (show R = (0, 0) by rw [HN2.out, judge, if_pos (.inr (.inr ⟨g3, g4⟩))])
                        clear HN2
                        go_wp2
                        go_ret2
                        exact ⟨ret_r2 (by rw [HN3.out]) (by rw [HN3.out]), rfl⟩
                      · have HN3 := Lib.hid (show R = (lo, 3) by rw [HN2.out, judge, if_neg (by simp only; omega)])
                        clear HN2
                        go_wp2
                        go_ret2
                        exact ⟨ret_r2 (by rw [HN3.out]) (by rw [HN3.out]), rfl⟩
                    · have HN3 := Lib.hid (show R = (lo, 3) by rw [HN2.out, judge, if_neg (by simp only; omega)])
                      clear HN2
                      go_wp2
                      go_ret2
                      exact ⟨ret_r2 (by rw [HN3.out]) (by rw [HN3.out]), rfl⟩
    · by_cases hx : 4 < len
      · exfalso; omega
      · have HE2 : Hid (R = match contV t (c - 240) with | none => (0, 0) | some x => judge 4 65536 1114111 (expand (4 - len) x x)) := by
          show _ = _
          rw [HE.out, if_neg hx]
          rfl
        clear HE
        have hx' : ¬ (4 : Int) < (len : Int) := by omega
        generalize hV : contV t (c - 240) = V at *
        have HV : Hid (V = contV (t.drop (1 - 1)) (c - 240)) := by show V = _; rw [← hV]; rfl
        clear hV
        go_enter Tryz.func113, Tryz.ntmps113
        go_wp2
        generalize c - 240 = v0 at *
        go_loop [5, 9] (fun s5 s9 => ∃ (i : Nat) (x : Int), s5 = .int .i32 x ∧ s9 = .int .i64 i ∧ 1 ≤ i ∧ i ≤ len ∧ Hid (bnd i x) ∧ Hid (V = contV (t.drop (i - 1)) x)) (fun _ s9 => len - (RowKit.intOf s9).toNat)
        case atStart => exact ⟨1, v0, rfl, rfl, Nat.le_refl _, hz1, HBV, HV⟩
        case round =>
          obtain ⟨i, x, rfl, rfl, hi1, hil, HB, HX⟩ := hrel
          clear HV HBV
          obtain ⟨hx0, hx1, hx2⟩ := HB.out.le hi1 (by omega)
          by_cases hlt : i < len
          · have hit : i - 1 < t.length := by have := HTL.out; omega
            have hci := HRT.out (i - 1) hit
            have hbi := HBT.out.get hit
            rw [show off + 1 + (i - 1) = off + i by omega] at hci
            have HS := Lib.hid (contV_step (t := t) (k := i - 1) (v := x) (b := t.getD (i - 1) 0) (by rw [List.getD_eq_getElem?_getD, List.getElem?_eq_getElem hit]; rfl))
            generalize t.getD (i - 1) 0 = y at *
            obtain ⟨hy0, hy1⟩ := hbi
            have hlt' : (i : Int) < (len : Int) := by omega
            have hx3 : x < 131072 := hx2 (by omega)
            clear hx2
            by_cases hy : y < 128 ∨ 192 ≤ y
            · have HN := Lib.hid (show R = (0, 0) by rw [HE2.out, HX.out, HS.out, if_pos hy])
              clear HS HX HE2
              rcases hy with hy | hy
              all_goals
                go_wp2
                go_ret2
                exact ⟨ret_r2 (by rw [HN.out]) (by rw [HN.out]), rfl⟩
            · have hya : ¬ y < 128 := by omega
              have hyb : ¬ 192 ≤ y := by omega
              have HB2 := Lib.hid (HB.out.step hi1 (by omega) (by omega : 0 ≤ y - 128) (by omega))
              have HX2 : Hid (V = contV (t.drop (i + 1 - 1)) (64 * x + y - 128)) := by
                show V = _
                rw [HX.out, HS.out, if_neg hy, show i - 1 + 1 = i + 1 - 1 by omega]
              clear HS HX hy
              go_wp2
              go_round
              case rel => exact ⟨i + 1, 64 * x + y - 128, rfl, by go_num, by omega, by omega, by
                show bnd (i + 1) (64 * x + y - 128)
                rw [show 64 * x + y - 128 = 64 * x + (y - 128) by omega]; exact HB2.out, HX2⟩
              case measure => simp [RowKit.intOf]; omega
          · obtain rfl : i = len := by omega
            have HN : Hid (R = judge 4 65536 1114111 (expand (4 - i) x x)) := by
              show R = _
              rw [HE2.out, HX.out, List.drop_eq_nil_of_le (by have := HTL.out; omega)]
              rfl
            clear HX HE2 hx2
            generalize hE : expand (4 - i) x x = E at *
            have HE := Lib.hid hE
            clear hE
            go_wp2
            go_loop [10, 11, 12] (fun s10 s11 s12 => ∃ (j : Nat) (lo hi : Int), s10 = .int .i32 lo ∧ s11 = .int .i32 hi ∧ s12 = .int .i64 j ∧ 1 ≤ j ∧ j ≤ 4 ∧ Hid (bnd j lo ∧ bnd j hi) ∧ Hid (expand (4 - j) lo hi = E)) (fun _ _ s12 => 4 - (RowKit.intOf s12).toNat)
            case atStart => exact ⟨i, x, x, rfl, rfl, rfl, hi1, by omega, ⟨HB.out, HB.out⟩, HE⟩
            case round =>
              obtain ⟨j, lo, hi, rfl, rfl, rfl, hj1, hj2, HBB, HEE⟩ := hrel
              clear HE HB hx0 hx1
              obtain ⟨hl0, hl1, hl2⟩ := HBB.out.1.le hj1 (by omega)
              obtain ⟨hh0, hh1, hh2⟩ := HBB.out.2.le hj1 (by omega)
              by_cases hlt2 : j < 4
              · have hl3 : lo < 131072 := hl2 (by omega)
                have hh3 : hi < 131072 := hh2 (by omega)
                have hlt3 : (j : Int) < 4 := by omega
                have hb1 := HBB.out.1.step hj1 (by omega) (by omega : (0 : Int) ≤ 0) (by omega)
                have hb2 := HBB.out.2.step hj1 (by omega) (by omega : (0 : Int) ≤ 63) (by omega)
                have HB2 : Hid (bnd (j + 1) (64 * lo) ∧ bnd (j + 1) (64 * hi + 63)) := ⟨by simpa using hb1, hb2⟩
                have HE3 : Hid (expand (4 - (j + 1)) (64 * lo) (64 * hi + 63) = E) := by
                  show _ = E
                  rw [← HEE.out, show 4 - j = (4 - (j + 1)) + 1 by omega]
                  rfl
                clear hb1 hb2 hl2 hh2
                go_wp2
                go_round
                case rel => exact ⟨j + 1, _, _, rfl, rfl, by go_num, by omega, by omega, HB2, HE3⟩
                case measure => simp [RowKit.intOf]; omega
              · obtain rfl : j = 4 := by omega
                have HN2 : Hid (R = judge 4 65536 1114111 (lo, hi)) := by
                  show R = _
                  rw [HN.out, ← HEE.out]
                  rfl
                clear HN HEE HBB hl2 hh2
                by_cases g1 : hi < 65536
                · have HN3 := Lib.hid (show R = (0, 0) by rw [HN2.out, judge, if_pos (.inl g1)])
                  clear HN2
                  go_wp2
                  go_ret2
                  exact ⟨ret_r2 (by rw [HN3.out]) (by rw [HN3.out]), rfl⟩
                · by_cases g2 : 1114111 < lo
                  · have HN3 := Lib.hid (show R = (0, 0) by rw [HN2.out, judge, if_pos (.inr (.inl g2))])
                    clear HN2
                    go_wp2
                    go_ret2
                    exact ⟨ret_r2 (by rw [HN3.out]) (by rw [HN3.out]), rfl⟩
                  · by_cases g3 : 55296 ≤ lo
                    · by_cases g4 : hi ≤ 57343
                      · have HN3 := Lib.hid (show R = (0, 0) by rw [HN2.out, judge, if_pos (.inr (.inr ⟨g3, g4⟩))])
                        clear HN2
                        go_wp2
                        go_ret2
                        exact ⟨ret_r2 (by rw [HN3.out]) (by rw [HN3.out]), rfl⟩
                      · have HN3 := Lib.hid (show R = (lo, 4) by rw [HN2.out, judge, if_neg (by simp only; omega)])
                        clear HN2
                        go_wp2
                        go_ret2
                        exact ⟨ret_r2 (by rw [HN3.out]) (by rw [HN3.out]), rfl⟩
                    · have HN3 := Lib.hid (show R = (lo, 4) by rw [HN2.out, judge, if_neg (by simp only; omega)])
                      clear HN2
                      go_wp2
                      go_ret2
                      exact ⟨ret_r2 (by rw [HN3.out]) (by rw [HN3.out]), rfl⟩
end Go.Proofs.YtpnbkecchfhimaaGreatDoor.S1
end

/- out of At -/
section
namespace Go.Proofs.YtpnbkecchfhimaaGreatDoor.S1
open Go.RowKit
open Go.Lib

theorem beginsF_range : ∀ (l : List Int), 0 ≤ (beginsF l).2 ∧ (beginsF l).2 ≤ 4
  | [] => ⟨by decide, by decide⟩
  | c :: t => by
    rw [beginsF]
    have hq : 0 ≤ (leadB c).1 ∧ (leadB c).1 ≤ 4 := by
      unfold leadB
      repeat' split
      all_goals simp
    split
    · simp
    · simp only
      split
      · simp
      · split
        · simp
        · unfold judge
          split
          · simp
          · exact hq

set_option maxHeartbeats 8000000 in
theorem at_any (a : Option Addr) (cap : Nat) (zs : List Int) (i : Nat) (w : World) (hs : SB w a cap zs) (hi : i < zs.length) :
    Calls Tryz.prog 81 #[.slice a zs.length cap, .int .i64 i] w fun e w' => e = .returned (.agg #[.int .i32 (atF (zs.drop i)).1, .int .i64 (atF (zs.drop i)).2.1, .bool (atF (zs.drop i)).2.2]) ∧ Below w.heap.size w w' := by
  obtain ⟨h1, h2, h3, h4⟩ := hs
  rcases h4 with rfl | ⟨b, off, rfl, hb, hrow⟩
  · simp at hi
  have HRD := Lib.hid (hrow.drop i)
  have HBD := Lib.hid (h3.drop i)
  have HLL := Lib.hid (show (zs.drop i).length = zs.length - i by simp)
  have HE : Hid (atF (zs.drop i) = atGo (zs.drop i) (5 - 1) 1 1) := rfl
  generalize atF (zs.drop i) = R at *
  generalize zs.drop i = l at *
  generalize zs.length = len at *
  clear h3 hrow
  go_enter Tryz.func81, Tryz.ntmps81
  go_wp2
  have hB : Below w.heap.size w (w.alloc (.cells #[.int .i32 0, .int .i64 0, .bool false] 100)) := (Below.refl _ _).alloc (Nat.le_refl _) _
  go_loop [5, 6] (fun s5 s6 => ∃ (k size : Nat), s5 = .int .i64 size ∧ s6 = .int .i64 k ∧ 1 ≤ k ∧ k ≤ 5 ∧ size ≤ 4 ∧ Hid (R = atGo l (5 - k) k size)) (fun _ s6 => 5 - (RowKit.intOf s6).toNat)
  case atStart => exact ⟨1, 1, rfl, rfl, by omega, by omega, by omega, HE⟩
  case round =>
    obtain ⟨k, size, rfl, rfl, hk1, hk5, hs4, HR⟩ := hrel
    clear HE
    by_cases hk4 : k ≤ 4
    · have hk4' : (k : Int) ≤ 4 := by omega
      have hstep : atGo l (5 - k) k size = if l.length < k then (65533, size, false) else if (beginsF (l.take k)).2 = 0 then (65533, size, false) else if (beginsF (l.take k)).2 = (k : Int) then ((beginsF (l.take k)).1, (beginsF (l.take k)).2.toNat, true) else atGo l (5 - (k + 1)) (k + 1) k := by
        rw [show 5 - k = (5 - (k + 1)) + 1 by omega]
        rfl
      by_cases hlk : l.length < k
      · have HN := Lib.hid (show R = (65533, size, false) by rw [HR.out, hstep, if_pos hlk])
        have hlk' : ¬ ((k : Int) ≤ (len : Int) - (i : Int)) := by have := HLL.out; omega
        clear HR hstep
        go_wp2
        refine bodyPost_ret (v := .agg #[.int .i32 65533, .int .i64 size, .bool false]) (by simp [results, Tryz.results81, go_sem]) rfl ⟨by rw [HN.out], ?_⟩
        exact (Below.refl _ _).alloc (Nat.le_refl _) _
      · have hlk' : (k : Int) ≤ (len : Int) - (i : Int) := by have := HLL.out; omega
        have hik : i + k ≤ len := by omega
        have hkc : i + k ≤ cap := by omega
        have htk : (l.take k).length = k := by rw [List.length_take]; omega
        have hrange := beginsF_range (l.take k)
        have hbg := fun W hr => begins_any b (off + i) k (cap - i) (l.take k) W htk hk1 hk4 hr (HBD.out.take k)
        have hrow2 : BRow (w.alloc (.cells #[.int .i32 0, .int .i64 0, .bool false] 100)) b (off + i) (l.take k) := (HRD.out.below hB hb).take k
        have HBG := Lib.hid (hbg _ hrow2)
        have HST := Lib.hid hstep
        clear hbg hrow2 hstep htk
        generalize beginsF (l.take k) = p at *
        obtain ⟨v, n⟩ := p
        simp only at HST HBG hrange
        obtain ⟨hr0, hr4⟩ := hrange
        by_cases hn0 : n = 0
        · subst hn0
          have HN := Lib.hid (show R = (65533, size, false) by rw [HR.out, HST.out, if_neg hlk, if_pos rfl])
          clear HR HST
          go_wp2_with (go_at_call 113; refine HBG.out.mono ?_; rintro e w' ⟨rfl, rfl⟩)
          refine bodyPost_ret (v := .agg #[.int .i32 65533, .int .i64 size, .bool false]) (by simp [results, Tryz.results81, go_sem]) rfl ⟨by rw [HN.out], ?_⟩
          exact (Below.refl _ _).alloc (Nat.le_refl _) _
        · have hn0' : (n == 0) = false := by simpa using hn0
          by_cases hnk : n = (k : Int)
          · have HN := Lib.hid (show R = (v, k, true) by rw [HR.out, HST.out, if_neg hlk, if_neg hn0, if_pos hnk, hnk, Int.toNat_natCast])
            subst hnk
            clear HR HST hn0
            go_wp2_with (go_at_call 113; refine HBG.out.mono ?_; rintro e w' ⟨rfl, rfl⟩)
            refine bodyPost_ret (v := .agg #[.int .i32 v, .int .i64 k, .bool true]) (by simp [results, Tryz.results81, go_sem]) rfl ⟨by rw [HN.out], ?_⟩
            exact (Below.refl _ _).alloc (Nat.le_refl _) _
          · have hnk' : (n == (k : Int)) = false := by simpa using hnk
            have HN := Lib.hid (show R = atGo l (5 - (k + 1)) (k + 1) k by rw [HR.out, HST.out, if_neg hlk, if_neg hn0, if_neg hnk])
            clear HR HST hn0 hnk
            go_wp2_with (go_at_call 113; refine HBG.out.mono ?_; rintro e w' ⟨rfl, rfl⟩)
            go_round
            case rel => exact ⟨k + 1, k, rfl, by go_num, by omega, by omega, by omega, HN⟩
            case measure => simp [RowKit.intOf]; omega
    · obtain rfl : k = 5 := by omega
      have HN := Lib.hid (show R = (65533, size, false) by rw [HR.out]; rfl)
      go_wp2
      refine bodyPost_ret (v := .agg #[.int .i32 65533, .int .i64 size, .bool false]) (by simp [results, Tryz.results81, go_sem]) rfl ⟨by rw [HN.out], ?_⟩
      exact (Below.refl _ _).alloc (Nat.le_refl _) _
end Go.Proofs.YtpnbkecchfhimaaGreatDoor.S1
end

/- out of Pcs -/
section
namespace Go.Proofs.YtpnbkecchfhimaaGreatDoor.S1

/-- A scalar that was read: where, its size, the scalar, whether it is whole. -/
structure Pc where
  at_ : Nat
  size : Nat
  r : Int
  whole : Bool

def pcsGo : Nat → Nat → List Int → List Pc
  | 0, _, _ => []
  | f + 1, i, l => match l with
    | [] => []
    | c :: t => ⟨i, (readF (c :: t)).2.1, (readF (c :: t)).1, (readF (c :: t)).2.2⟩ :: pcsGo f (i + (readF (c :: t)).2.1) ((c :: t).drop (readF (c :: t)).2.1)

/-- All pieces of bytes. -/
def pcs (zs : List Int) : List Pc := pcsGo zs.length 0 zs

theorem pcsGo_nil (f i : Nat) : pcsGo f i [] = [] := by cases f <;> rfl

theorem pcsGo_fuel : ∀ (f g i : Nat) (l : List Int), l.length ≤ f → l.length ≤ g → pcsGo f i l = pcsGo g i l
  | 0, g, i, [], _, _ => by rw [pcsGo_nil, pcsGo_nil]
  | f + 1, g, i, [], _, _ => by rw [pcsGo_nil, pcsGo_nil]
  | f + 1, 0, i, c :: t, _, h => by simp at h
  | f + 1, g + 1, i, c :: t, h1, h2 => by
    have := readF_size c t
    show _ :: _ = _ :: _
    rw [pcsGo_fuel f g _ _ (by simp at h1 ⊢; omega) (by simp at h2 ⊢; omega)]

/-- From a place on. -/
def pcsFrom (zs : List Int) (i : Nat) : List Pc := pcsGo (zs.length - i) i (zs.drop i)

theorem pcsFrom_zero (zs : List Int) : pcsFrom zs 0 = pcs zs := rfl
theorem pcsFrom_end {zs : List Int} {i : Nat} (h : zs.length ≤ i) : pcsFrom zs i = [] := by
  unfold pcsFrom
  rw [List.drop_eq_nil_of_le h, pcsGo_nil]
theorem pcsFrom_step {zs : List Int} {i : Nat} (h : i < zs.length) :
    pcsFrom zs i = ⟨i, (readF (zs.drop i)).2.1, (readF (zs.drop i)).1, (readF (zs.drop i)).2.2⟩ :: pcsFrom zs (i + (readF (zs.drop i)).2.1) := by
  unfold pcsFrom
  have hd : zs.drop i ≠ [] := by simp; omega
  obtain ⟨c, t, e⟩ := List.exists_cons_of_ne_nil hd
  have hl : (c :: t).length = zs.length - i := by rw [← e]; simp
  have hs := readF_size c t
  rw [← List.drop_drop, e, ← hl]
  have hl2 : t.length + 1 = zs.length - i := by simpa using hl
  show _ :: _ = _ :: _
  congr 1
  refine pcsGo_fuel _ _ _ _ ?_ ?_
  · simp; omega
  · simp; omega

theorem readF_drop_size {zs : List Int} {i : Nat} (h : i < zs.length) : 1 ≤ (readF (zs.drop i)).2.1 ∧ i + (readF (zs.drop i)).2.1 ≤ zs.length := by
  have hd : zs.drop i ≠ [] := by simp; omega
  obtain ⟨c, t, e⟩ := List.exists_cons_of_ne_nil hd
  have hl : t.length + 1 = zs.length - i := by
    have : (zs.drop i).length = zs.length - i := by simp
    rw [e] at this
    simpa using this
  have hs := readF_size c t
  rw [e]
  omega

theorem pcsFrom_length : ∀ (n : Nat) (zs : List Int) (i : Nat), zs.length - i = n → (pcsFrom zs i).length ≤ zs.length - i
  | n, zs, i, hn => by
    by_cases h : i < zs.length
    · rw [pcsFrom_step h]
      have hs := readF_drop_size h
      have := pcsFrom_length (zs.length - (i + (readF (zs.drop i)).2.1)) zs (i + (readF (zs.drop i)).2.1) rfl
      simp only [List.length_cons]
      omega
    · rw [pcsFrom_end (by omega)]; simp
  termination_by n => n
theorem pcs_length (zs : List Int) : (pcs zs).length ≤ zs.length := by
  have := pcsFrom_length _ zs 0 rfl
  rw [pcsFrom_zero] at this
  omega

/-- Each piece is within the bytes. -/
theorem pcsFrom_mem : ∀ (n : Nat) (zs : List Int) (i : Nat), zs.length - i = n → ∀ p ∈ pcsFrom zs i, i ≤ p.at_ ∧ 1 ≤ p.size ∧ p.at_ + p.size ≤ zs.length
  | n, zs, i, hn, p, hp => by
    by_cases h : i < zs.length
    · rw [pcsFrom_step h] at hp
      have hs := readF_drop_size h
      rcases List.mem_cons.1 hp with rfl | hp
      · exact ⟨Nat.le_refl _, hs.1, hs.2⟩
      · have := pcsFrom_mem (zs.length - (i + (readF (zs.drop i)).2.1)) zs (i + (readF (zs.drop i)).2.1) rfl p hp
        omega
    · rw [pcsFrom_end (by omega)] at hp
      cases hp
  termination_by n => n
theorem pcs_mem {zs : List Int} {p : Pc} (hp : p ∈ pcs zs) : 1 ≤ p.size ∧ p.at_ + p.size ≤ zs.length := by
  have := pcsFrom_mem _ zs 0 rfl p hp
  omega
end Go.Proofs.YtpnbkecchfhimaaGreatDoor.S1
end

/- out of RefAll -/
section
namespace Go.Proofs.YtpnbkecchfhimaaGreatDoor.S1
open Go.RowKit
open Go.Lib (hid)

theorem info_piece : (Tryz.prog.info? 100).map (fun i => (i.zero, i.size, i.bytes)) = some (some (.agg #[.int .i32 0, .int .i64 0, .bool false]), 3, 24) := by kernel_rfl

def refCells (p : Pc) : List Value := [.int .i32 p.r, .int .i64 p.size, .bool p.whole]
theorem refCells_len : ∀ (l : List Pc), (l.flatMap refCells).length = l.length * 3
  | [] => rfl
  | p :: l => by rw [List.flatMap_cons, List.length_append, refCells_len l]; simp [refCells]; omega

set_option maxRecDepth 100000 in
set_option maxHeartbeats 4000000 in
theorem refall_any (a : Option Addr) (cap : Nat) (zs : List Int) (w : World) (hs : SB w a cap zs) (hbig : zs.length ≤ 1000000) :
    Calls Tryz.prog 52 #[.slice a zs.length cap] w fun e W' => ∃ v, e = .returned v ∧ W'.ownsRow w.heap.size 100 3 v (pcs zs).length ((pcs zs).flatMap refCells) ∧ Below w.heap.size w W' := by
  obtain ⟨i0, hi, hz0, hz1, hz2⟩ := info_parts info_piece
  have hlen := pcs_length zs
  have HS := hid hs
  clear hs
  go_enter Tryz.func52, Tryz.ntmps52
  go_wp2
  go_loopw [3, 4] (fun s3 s4 wr => ∃ (v : Value) (i : Nat) (pre : List Pc), s3 = v ∧ s4 = .int .i64 i ∧ i ≤ zs.length ∧ Hid (pre ++ pcsFrom zs i = pcs zs) ∧ wr.ownsRow w.heap.size 100 3 v pre.length (pre.flatMap refCells) ∧ Below w.heap.size w wr) (fun _ s4 _ => zs.length - (intOf s4).toNat)
  case atStart => exact ⟨_, 0, [], rfl, rfl, Nat.zero_le _, rfl, World.ownsRow_nil _ _ _ _, Below.refl _ _⟩
  case round =>
    obtain ⟨v, i, pre, rfl, rfl, hi1, HP, hrow, hB⟩ := hrel
    have HROW := hid hrow
    have HB := hid hB
    have hszr := hB.size
    clear hrow hB
    by_cases hlt : i < zs.length
    · have hlt' : (i : Int) < (zs.length : Int) := by omega
      have hat := at_any a cap zs i wr (HS.out.below HB.out (Nat.le_refl _)) hlt
      rw [atF_eq _ (by simp; omega) (HS.out.2.2.1.drop i)] at hat
      have hst := pcsFrom_step hlt
      have hsz := readF_drop_size hlt
      generalize readF (zs.drop i) = q at *
      obtain ⟨r, size, whole⟩ := q
      simp only at hat hst hsz
      obtain ⟨hs1, hs2⟩ := hsz
      have HAT := hid hat
      have HP2 : Hid ((pre ++ [⟨i, size, r, whole⟩]) ++ pcsFrom zs (i + size) = pcs zs) := by
        refine Eq.trans ?_ HP.out
        rw [hst]; simp
      have hplen : pre.length + 1 ≤ 1000000 := by
        have h := congrArg List.length HP2.out
        simp at h
        omega
      have hib : (i : Int) + (size : Int) ≤ 1000000 := by omega
      clear hat hst HP hlen hbig
      go_wp2_with fail
      refine HAT.out.mono ?_
      rintro e w1 ⟨rfl, hb1⟩
      have hb1s := hb1.size
      have hrow1 := owns_below HROW.out hb1
      have HROW1 := hid hrow1
      have HB1 := hid (HB.out.trans (hb1.mono hszr))
      have hne : some w1.heap.size ≠ u3.ownBlock := fun e => by have := (HROW1.out.lt _ e.symm).2; omega
      clear hb1 hrow1 HROW
      go_wp2_with (at_builtin; (refine wpList_append_own _ rfl _ _ 97 rfl w.heap.size 100 i0 (.agg #[.int .i32 0, .int .i64 0, .bool false]) 3 24 Tryz.underlying97 hi hz0 hz1 hz2 rfl (by decide) _ _ _ rfl ((HROW1.out.alloc _).alloc _) ⟨w1.heap.size + 1, 0, none⟩ 1 1 [.int .i32 r, .int .i64 size, .bool whole] rfl rfl (World.news_of_block (cs := #[.int .i32 r, .int .i64 size, .bool whole]) (t := 100) (fr := (0, 0)) (by rw [← World.size_alloc w1 _]; exact heap_alloc_new _ _)) (by simp [Value.oneCell']) (by unfold maxLen; omega) (by omega) (by simp; omega) ?_); intro v' w2 hown' hgrow _; have hcs : w2.cell? ⟨w1.heap.size, 1, none⟩ = some (.int .i64 size) := by rw [hgrow.cell_far _ (by simp; omega) hne]; simp)
      go_roundw
      case rel => exact ⟨v', i + size, _, rfl, by go_num, by omega, HP2, by simpa [refCells] using hown', (((HB1.out.alloc (by have := HB1.out.size; omega) _).alloc (by have := HB1.out.size; simp; omega) _).grown hgrow (by have := HB1.out.size; simp; omega) (fun k e => (HROW1.out.lt k e).1))⟩
      case measure => simp [intOf]; omega
    · obtain rfl : i = zs.length := by omega
      have hfin : pre = pcs zs := by
        have h := HP.out
        rwa [pcsFrom_end (Nat.le_refl _), List.append_nil] at h
      subst hfin
      go_wp2
      go_ret
      exact ⟨_, rfl, HROW.out, HB.out⟩
end Go.Proofs.YtpnbkecchfhimaaGreatDoor.S1
end
