/- Chapter 17: the program's escapes: the walks. -/
import Derived.Test.YtlopigkaibkblaaDoorByt
import Derived.Deep.RegionWith
namespace Go.Proofs.YtlopigkaibkblaaDoor
open Go.RowKit
open Go.Lib (hid)
set_option linter.unusedVariables false

def amongB (lo hi c : Int) : Bool := decide (lo ≤ c ∧ c ≤ hi)
theorem among_any (c lo hi : Int) (w : World) : Calls Tryd.prog 20 #[.int .u8 c, .int .u8 lo, .int .u8 hi] w fun e w' => e = .returned (.bool (amongB lo hi c)) ∧ w' = w := by
  unfold amongB
  by_cases h1 : lo ≤ c
  · by_cases h2 : c ≤ hi
    · rw [show decide (lo ≤ c ∧ c ≤ hi) = true from decide_eq_true ⟨h1, h2⟩]
      go_enter Tryd.func20, Tryd.ntmps20
      go_wp2_with fail
      go_ret
      exact ⟨rfl, rfl⟩
    · rw [show decide (lo ≤ c ∧ c ≤ hi) = false from decide_eq_false fun h => h2 h.2]
      go_enter Tryd.func20, Tryd.ntmps20
      go_wp2_with fail
      go_ret
      exact ⟨rfl, rfl⟩
  · rw [show decide (lo ≤ c ∧ c ≤ hi) = false from decide_eq_false fun h => h1 h.1]
    go_enter Tryd.func20, Tryd.ntmps20
    go_wp2_with fail
    go_ret
    exact ⟨rfl, rfl⟩

set_option maxRecDepth 100000 in
set_option maxHeartbeats 4000000 in
theorem run_any (b off n cap i : Nat) (lo hi : Int) (s : ByteArray) (hn : n = s.size) (hi' : i ≤ n) (hcap : n ≤ cap) (hc63 : cap ≤ 9223372036854775807) (w : World) (hz : Lib.Bytes w b off s) :
    Calls Tryd.prog 26 #[.slice (some ⟨b, off, none⟩) n cap, .int .i64 i, .int .u8 lo, .int .u8 hi] w fun e w' => e = .returned (.int .i64 (passTo (amongB lo hi) s i : Nat)) ∧ w' = w := by
  have HZ := hid hz
  have HN := hid hn
  clear hz hn
  go_enter Tryd.func26, Tryd.ntmps26
  go_wp2_with fail
  go_loopg [1] n (fun kx s1 wr => ∃ (j : Nat), s1 = .int .i64 j ∧ j ≤ n ∧ n - j ≤ kx ∧ wr = w ∧ Hid (passTo (amongB lo hi) s i = passTo (amongB lo hi) s j))
  case atStart => exact ⟨i, rfl, hi', by omega, rfl, rfl⟩
  case round =>
    obtain ⟨j, rfl, hj, hg, hw, HP⟩ := hrel
    obtain rfl : w = wr := hw.symm
    by_cases hlt : j < n
    · have hlt' : (j : Int) < (n : Int) := by omega
      have his : j < s.size := by have := HN.out; omega
      have hcell := bytes_cell HZ.out his
      have hi1 : (j : Int) + 1 ≤ 9223372036854775807 := by omega
      have hst := passTo_step (p := amongB lo hi) his
      have hsp := passTo_stop (p := amongB lo hi) his
      have ham := fun W => among_any (byt s j) lo hi W
      generalize byt s j = c at *
      cases hp : amongB lo hi c
      · rw [hp] at ham
        have HAM := hid ham
        have HQ := hid (HP.out.trans (hsp hp))
        clear ham hst hsp hp
        go_wp2_with fail
        refine (HAM.out _).mono ?_
        rintro e w2 ⟨rfl, hw⟩
        obtain rfl : w = w2 := hw.symm
        go_wp2_with fail
        go_ret
        rw [HQ.out]
        exact ⟨rfl, rfl⟩
      · rw [hp] at ham
        have HAM := hid ham
        have HQ := hid (HP.out.trans (hst hp))
        clear ham hst hsp hp
        go_wp2_with fail
        refine (HAM.out _).mono ?_
        rintro e w2 ⟨rfl, hw⟩
        obtain rfl : w = w2 := hw.symm
        go_wp2_with fail
        go_roundg (n - (j + 1))
        case measure => omega
        case rel => exact ⟨j + 1, rfl, by omega, Nat.le_refl _, rfl, HQ⟩
    · have hlt' : ¬ (j : Int) < (n : Int) := by omega
      have HQ := hid (HP.out.trans (passTo_end (p := amongB lo hi) (s := s) (i := j) (by have := HN.out; omega)))
      have HJ := hid (show j = n by omega)
      go_wp2_with fail
      go_ret
      rw [HQ.out]
      exact ⟨rfl, rfl⟩

theorem begins_any (a : Option Addr) (n cap : Nat) (i : Int) (s : ByteArray) (w : World) (hb : BA w a n cap s) (hi1 : i ≤ 9223372036854775807) :
    Calls Tryd.prog 18 #[.slice a n cap, .int .i64 i] w fun e w' => e = .returned (.bool (decide (0 ≤ i ∧ i < n ∧ byt s i.toNat = 27))) ∧ w' = w := by
  have hn := hb.1
  have hrow := hb.2.2.2
  have hcap := hb.2.1
  have h63 := hb.2.2.1
  clear hb
  by_cases h0 : 0 ≤ i
  · obtain ⟨k, rfl⟩ : ∃ k : Nat, i = k := ⟨i.toNat, by omega⟩
    by_cases h1 : k < n
    · obtain ⟨b, off, rfl, hbl, hz⟩ := hrow (by omega)
      have h1' : (k : Int) < (n : Int) := by omega
      have hcell := bytes_cell hz (i := k) (by omega)
      rw [show (k : Int).toNat = k from rfl]
      generalize byt s k = c at *
      by_cases hc : c = 27
      · subst hc
        have HD := hid (show decide (0 ≤ (k : Int) ∧ (k : Int) < (n : Int) ∧ (27 : Int) = 27) = true from decide_eq_true ⟨h0, h1', rfl⟩)
        rw [HD.out]
        clear hn hrow hz
        go_enter Tryd.func18, Tryd.ntmps18
        go_wp2_with fail
        go_ret
        exact ⟨rfl, rfl⟩
      · have HD := hid (show decide (0 ≤ (k : Int) ∧ (k : Int) < (n : Int) ∧ c = 27) = false from decide_eq_false fun h => hc h.2.2)
        have hcb : (c == 27) = false := by simpa using hc
        rw [HD.out]
        clear hn hrow hz
        go_enter Tryd.func18, Tryd.ntmps18
        go_wp2_with fail
        go_ret
        exact ⟨rfl, rfl⟩
    · have h1' : ¬ (k : Int) < (n : Int) := by omega
      rw [show decide (0 ≤ (k : Int) ∧ (k : Int) < (n : Int) ∧ byt s (k : Int).toNat = 27) = false from decide_eq_false fun h => h1' h.2.1]
      clear hn hrow
      go_enter Tryd.func18, Tryd.ntmps18
      go_wp2_with fail
      go_ret
      exact ⟨rfl, rfl⟩
  · rw [show decide (0 ≤ i ∧ i < n ∧ byt s i.toNat = 27) = false from decide_eq_false fun h => h0 h.1]
    clear hn hrow
    go_enter Tryd.func18, Tryd.ntmps18
    go_wp2_with fail
    go_ret
    exact ⟨rfl, rfl⟩

/-- An escape. -/
structure Es where
  size : Nat
  whole : Bool
  open_ : Bool
  last : Int
def Es.val (e : Es) : Value := .agg #[.int .i64 e.size, .bool e.whole, .bool e.open_, .int .u8 e.last]
def es0 : Es := ⟨0, false, false, 0⟩
/-- A control sequence: where its parameters end; where its others. -/
def seqK (t : ByteArray) : Nat := passTo (amongB 48 63) t 2
def seqN (t : ByteArray) : Nat := passTo (amongB 32 47) t (seqK t)
def seqE (t : ByteArray) : Es := if seqN t < t.size ∧ amongB 64 126 (byt t (seqN t)) = true then ⟨seqN t + 1, true, false, byt t (seqN t)⟩ else ⟨seqN t, false, seqN t == t.size, 0⟩
def headE (t : ByteArray) : Es :=
  if t.size = 1 then ⟨1, false, true, 0⟩
  else if byt t 1 = 91 then seqE t
  else if amongB 64 95 (byt t 1) = true then ⟨2, true, false, byt t 1⟩
  else ⟨1, false, false, 0⟩
def readE (s : ByteArray) (i : Int) : Es := if 0 ≤ i ∧ i < s.size ∧ byt s i.toNat = 27 then headE (s.extract i.toNat s.size) else es0
def es0c : Array Value := #[.int .i64 0, .bool false, .bool false, .int .u8 0]
end Go.Proofs.YtlopigkaibkblaaDoor
