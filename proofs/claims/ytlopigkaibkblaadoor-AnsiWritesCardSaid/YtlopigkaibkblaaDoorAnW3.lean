/- Chapter 17: the law's digits: the walk. -/
import Derived.Test.YtlopigkaibkblaaDoorAnW1
namespace Go.Proofs.YtlopigkaibkblaaDoor
open Go.RowKit
open Go.Lib (hid)
set_option linter.unusedVariables false

theorem size_of_nil {x : ByteArray} (h : x.toList = []) : x.size = 0 := by
  rw [Lib.toList_data] at h
  have h2 : x.data.toList.length = 0 := by rw [h]; rfl
  simpa using h2
/-- Of u the digits ahead of x. -/
def digGo (u : Nat) (x : ByteArray) : ByteArray := if u = 0 then x else itoaB (u : Int) ++ x
theorem dig_big {u : Nat} (h : ¬ u < 10) (x : ByteArray) : digGo u x = digGo (u / 10) (oneB (((48 + u % 10 : Nat) : Nat) : Int) ++ x) := by
  unfold digGo
  rw [if_neg (by omega), if_neg (by omega), dec_step h, append_assoc3]
theorem dig_small {u : Nat} (h : u < 10) (h0 : u ≠ 0) (x : ByteArray) : digGo u x = digGo (u / 10) (oneB (((48 + u % 10 : Nat) : Nat) : Int) ++ x) := by
  unfold digGo
  rw [if_neg h0, if_pos (by omega), dec_one h, Nat.mod_eq_of_lt h]
theorem dig_next {u : Nat} (h0 : u ≠ 0) (x : ByteArray) : digGo u x = digGo (u / 10) (oneB (((48 + u % 10 : Nat) : Nat) : Int) ++ x) := by
  by_cases h : u < 10
  · exact dig_small h h0 x
  · exact dig_big h x
def tens : ByteArray := ⟨#[48, 49, 50, 51, 52, 53, 54, 55, 56, 57]⟩
theorem ten_byte : ∀ k : Fin 10, tens.extract k.val (k.val + 1) = ⟨#[UInt8.ofNat (48 + k.val)]⟩ := by decide
set_option maxRecDepth 100000 in
set_option maxHeartbeats 8000000 in
theorem digits_any (n : Nat) (hn : n ≤ 99999) (w : World) : Calls Tryd.prog 16 #[.int .i64 n] w fun e w' => e = .returned (.string (itoaB n)) ∧ w' = w := by
  go_enter Tryd.func16, Tryd.ntmps16
  go_wp2_with fail
  go_loopg [0, 3] (n + 1) (fun kx s0 s3 wr => ∃ (u : Nat) (x : ByteArray), s0 = .int .i64 u ∧ s3 = .string x ∧ wr = w ∧ Hid (x.size + u < 200000) ∧ u + (if x.size = 0 then 1 else 0) ≤ kx ∧ Hid (x.size ≠ 0 → itoaB n = digGo u x) ∧ Hid (x.size = 0 → u = n))
  case atStart => exact ⟨n, ⟨#[]⟩, rfl, rfl, rfl, (by show _ + _ < _; show 0 + n < _; omega), (by show n + 1 ≤ _; omega), (fun h => absurd rfl h), fun _ => rfl⟩
  case round =>
    obtain ⟨u, x, rfl, rfl, hw, HU, hk, HX, HZ⟩ := hrel
    obtain rfl : w = wr := hw.symm
    by_cases hu : u = 0
    · subst hu
      by_cases hx : x.size = 0
      · have hxe : x = ⟨#[]⟩ := by
          apply ext_byt hx
          intro i hi
          omega
        subst hxe
        have HN := hid (HZ.out hx)
        have HK := hid hk
        clear hk hx
        go_wp2_with fail
        go_roundg 0
        case measure =>
          have := HK.out
          rw [if_pos (show (⟨#[]⟩ : ByteArray).size = 0 from rfl)] at this
          omega
        case rel =>
          refine ⟨0, oneB 48, rfl, rfl, rfl, (show (oneB 48).size + 0 < 200000 by decide), Nat.le_refl _, fun _ => ?_, fun h => ?_⟩
          · rw [← HN.out]
            exact (dec_one (u := 0) (by decide)).trans rfl
          · exact absurd h (by decide)
      · have hxl : ¬ x.toList = [] := fun h => hx (size_of_nil h)
        have hxb : x.toList.isEmpty = false := by simpa using hxl
        have HE := hid ((HX.out hx).trans (show digGo 0 x = x from if_pos rfl))
        clear hx
        go_wp2_with fail
        go_ret
        rw [HE.out]
        exact ⟨rfl, rfl⟩
    · have hu0 : (0 : Int) < (u : Int) := by omega
      have hl : ¬ (1 + x.size > 9223372036854775807) := by have := HU.out; omega
      have hl2 : ¬ (9223372036854775807 < 1 + x.size) := hl
      have HK := hid hk
      have hb : (⟨#[48, 49, 50, 51, 52, 53, 54, 55, 56, 57]⟩ : ByteArray).extract (u % 10) (u % 10 + 1) = oneB ((48 + u % 10 : Nat) : Int) := ten_byte ⟨u % 10, Nat.mod_lt _ (by decide)⟩
      have HB := hid hb
      clear hk hb
      go_wp2_with fail
      go_roundg (u / 10)
      case measure => have := HK.out; omega
      case rel =>
        rw [HB.out]
        refine ⟨u / 10, oneB ((48 + u % 10 : Nat) : Int) ++ x, (by have := HU.out; congr 1; unfold wrap64; omega), rfl, rfl, ?_, ?_, fun _ => ?_, fun h => ?_⟩
        · show _ < _
          have := HU.out
          rw [ByteArray.size_append, show (oneB ((48 + u % 10 : Nat) : Int)).size = 1 from rfl]
          omega
        · rw [if_neg (by rw [ByteArray.size_append, show (oneB ((48 + u % 10 : Nat) : Int)).size = 1 from rfl]; omega)]
          exact Nat.le_refl _
        · by_cases hx : x.size = 0
          · have hxe : x = ⟨#[]⟩ := by
              apply ext_byt hx
              intro i hi
              omega
            have hz := HZ.out hx
            subst hxe
            rw [← hz, ← dig_next hu]
            unfold digGo
            rw [if_neg hu, append_empty]
          · rw [HX.out hx]
            exact dig_next hu x
        · rw [ByteArray.size_append, show (oneB ((48 + u % 10 : Nat) : Int)).size = 1 from rfl] at h
          omega
end Go.Proofs.YtlopigkaibkblaaDoor
