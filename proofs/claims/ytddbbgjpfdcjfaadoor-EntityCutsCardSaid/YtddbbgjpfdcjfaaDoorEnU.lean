/- Chapter 16: the document's Write: the walk. -/
import Derived.Test.YtddbbgjpfdcjfaaDoorEnS
namespace Go.Proofs.YtddbbgjpfdcjfaaDoor
open Go.RowKit
open Go.Shelf
open Go.Lib (hid)
set_option linter.unusedVariables false

def oneD (d : UInt8) : ByteArray := ⟨#[d]⟩
def digT : ByteArray := ⟨#[48, 49, 50, 51, 52, 53, 54, 55, 56, 57, 97, 98, 99, 100, 101, 102]⟩
theorem digT_at : ∀ k : Fin 16, digT.extract k.val (k.val + 1) = oneD (dg k.val) := by decide
/-- Of u the digits ahead of x. -/
def hexGo (u : Nat) (x : ByteArray) : ByteArray := if u = 0 then x else hexB u ++ x
theorem hexGo_next {u : Nat} (h : u ≠ 0) (x : ByteArray) : hexGo u x = hexGo (u / 16) (oneD (dg (u % 16)) ++ x) := by
  unfold hexGo
  rw [if_neg h]
  by_cases h16 : u < 16
  · rw [if_pos (by omega)]
    have : hexB u = oneD (dg (u % 16)) := by
      unfold hexB oneD
      rw [hexD, dif_pos h16, Nat.mod_eq_of_lt h16]
    rw [this]
  · rw [if_neg (by omega), ← append_assoc3]
    congr 1
    unfold hexB oneD
    rw [hexD, dif_neg h16]
    apply ByteArray.ext
    simp [ByteArray.data_append]

set_option maxRecDepth 100000 in
set_option maxHeartbeats 8000000 in
theorem refwrite_any (r : Int) (w : World) :
    Calls Tryd.prog 17 #[.int .i32 r] w fun e w' => e = .returned (.string (writeR r)) ∧ Below w.heap.size w w' := by
  have hrr := fun W => refright_any r W
  by_cases hz : r = 0
  · subst hz
    have HR := hid (show writeR 0 = ⟨#[]⟩ from write_none.2 (.inl rfl))
    clear hrr
    go_enter Tryd.func17, Tryd.ntmps17
    go_wp2_with fail
    go_ret
    rw [HR.out]
    exact ⟨rfl, Below.refl _ _⟩
  have hzb : (r == 0) = false := by simpa using hz
  cases hrb : rightR r
  · have hnr : ¬ rightV r := fun h => by rw [(rightR_iff r).2 h] at hrb; cases hrb
    have HR := hid (show writeR r = ⟨#[]⟩ from write_none.2 (.inr hnr))
    rw [hrb] at hrr
    have HRR := hid hrr
    clear hrr hrb hnr hz
    go_enter Tryd.func17, Tryd.ntmps17
    go_wp2_with (go_at_call 18; refine (HRR.out _).mono ?_; rintro e w2 ⟨rfl, hw2⟩; obtain rfl : w = w2 := hw2.symm)
    go_ret
    rw [HR.out]
    exact ⟨rfl, Below.refl _ _⟩
  have hrv : rightV r := (rightR_iff r).1 hrb
  have hno : ¬ (r = 0 ∨ ¬ rightV r) := fun h => h.elim hz fun h => h hrv
  have hwn := fun n => write_name (r := r) (n := n) hno
  have hwh := write_hex (r := r) hno
  obtain ⟨hs6, hsr⟩ := right_small hrv
  rw [hrb] at hrr
  have HRR := hid hrr
  have HWN := hid hwn
  have HWH := hid hwh
  have HS6 := hid hs6
  obtain ⟨k0, hk0⟩ : ∃ k0, k0 = r.toNat := ⟨_, rfl⟩
  have hrk : r = (k0 : Int) := by rw [hk0]; exact hsr.symm
  have hk00 : k0 ≠ 0 := fun e => hz (by rw [hrk, e]; rfl)
  have HRK := hid hrk
  have HK0 := hid hk0
  have HK00 := hid hk00
  clear hno hrv hwn hwh hs6 hsr hk0 hrk hrr hrb hz hk00
  go_enter Tryd.func17, Tryd.ntmps17
  go_wp2_with (go_at_call 18; refine (HRR.out _).mono ?_; rintro e w2 ⟨rfl, hw2⟩; obtain rfl : w = w2 := hw2.symm)
  refine (refnames_any w).mono ?_
  rintro e w1 ⟨rfl, hr1, hb1⟩
  have HB1 := hid hb1
  have hcl : ∀ j, j < 26 → w1.cell? ⟨w.heap.size, j * 2, none⟩ = some (.string (nameAt j).1) ∧ w1.cell? ⟨w.heap.size, j * 2 + 1, none⟩ = some (.int .i32 (nameAt j).2) := by
    intro j hj
    have := rowsV_get j (by rw [names_len]; exact hj)
    rw [hr1.cell, hr1.cell, nameAt_is (by rw [names_len]; exact hj)]
    exact this
  have HCL := hid hcl
  clear hr1 hb1 hcl hzb
  go_wp2_with fail
  go_loopg [4] 26 (fun kx s4 wr => ∃ i : Nat, s4 = .int .i64 i ∧ i ≤ 26 ∧ 26 - i ≤ kx ∧ wr = w1 ∧ Hid (∀ j, j < i → (nameAt j).2 ≠ r))
  case atStart => exact ⟨0, rfl, Nat.zero_le _, by omega, rfl, fun j hj => absurd hj (Nat.not_lt_zero _)⟩
  case round =>
    obtain ⟨i, rfl, hi, hg, hw, A⟩ := hrel
    obtain rfl : w1 = wr := hw.symm
    by_cases hlt : i < 26
    · have hlt' : (i : Int) < 26 := by omega
      obtain ⟨k1, k2⟩ := HCL.out i hlt
      have hil : i < names.length := by rw [names_len]; exact hlt
      have hz6 : (nameAt i).1.size ≤ 6 := by rw [nameAt_is hil]; exact (names_fact (List.getElem_mem hil)).2.1
      have hna : (nameAt i).2 = r → nameOf r = some (nameAt i).1 := fun h => nameOf_at hlt h A.out
      have hnext : (nameAt i).2 ≠ r → ∀ j, j < i + 1 → (nameAt j).2 ≠ r := fun h j hj => by
        by_cases e : j = i
        · subst e; exact h
        · exact A.out j (by omega)
      generalize (nameAt i).1 = x at *
      generalize (nameAt i).2 = z at *
      have HNA := hid hna
      have HNX := hid hnext
      have hcz2 : ¬ (1 + x.size > 9223372036854775807) := by omega
      have hcz3 : ¬ (9223372036854775807 < 1 + x.size) := by omega
      have hcy2 : ¬ (1 + x.size + 1 > 9223372036854775807) := by omega
      have hcy3 : ¬ (9223372036854775807 < 1 + x.size + 1) := by omega
      have hcz : ¬ ((⟨#[38]⟩ : ByteArray).size + x.size > 9223372036854775807) := by show ¬ (1 + x.size > _); omega
      have hcy : ¬ (((⟨#[38]⟩ : ByteArray) ++ x).size + (⟨#[59]⟩ : ByteArray).size > 9223372036854775807) := by rw [ByteArray.size_append]; show ¬ (1 + x.size + 1 > _); omega
      have hcy4 : ¬ (9223372036854775807 < ((⟨#[38]⟩ : ByteArray) ++ x).size + 1) := by rw [ByteArray.size_append]; show ¬ (_ < 1 + x.size + 1); omega
      clear hna hnext
      by_cases hz : z = r
      · have hwr := HWN.out x (HNA.out hz)
        have HWR := hid hwr
        subst hz
        clear hwr
        go_wp2_with fail
        go_ret
        rw [HWR.out]
        exact ⟨rfl, HB1.out⟩
      · have hzb : (z == r) = false := by simpa using hz
        have HN2 := hid (HNX.out hz)
        clear hz hcz hcz2 hcz3 hcy hcy2 hcy3 hcy4
        go_wp2_with fail
        go_roundg (26 - (i + 1))
        case measure => omega
        case rel => exact ⟨i + 1, by go_num, by omega, Nat.le_refl _, rfl, HN2⟩
    · have hlt' : ¬ (i : Int) < 26 := by omega
      have hwr := HWH.out (nameOf_no fun j hj => A.out j (by omega))
      rw [← HK0.out] at hwr
      have hs6 := HS6.out
      rw [← HK0.out] at hs6
      have hhz : (hexB k0).size ≤ 6 := by rw [hexB_size]; exact hexD_len 6 _ (by decide) hs6
      have hst : hexB k0 = hexGo k0 ⟨#[]⟩ := by unfold hexGo; rw [if_neg HK00.out, append_empty]
      have HWR := hid hwr
      have HHZ := hid hhz
      have HST := hid hst
      have hrk := HRK.out
      subst hrk
      have hk16 : k0 < 16777216 := by have : (16 : Nat) ^ 6 = 16777216 := rfl; omega
      have HK16 := hid hk16
      clear hwr hs6 hi hg hlt hhz hst hk16
      go_wp2_with fail
      go_loopg [0, 5] k0 (fun kx s0 s5 wr => ∃ (u : Nat) (x : ByteArray), s0 = .int .i32 u ∧ s5 = .string x ∧ wr = w1 ∧ u ≤ kx ∧ Hid (u ≤ k0) ∧ Hid (hexB k0 = hexGo u x))
      case atStart => exact ⟨k0, ⟨#[]⟩, rfl, rfl, rfl, Nat.le_refl _, Nat.le_refl _, HST.out⟩
      case round =>
        obtain ⟨u, x, rfl, rfl, hw, hku, HUK, HX⟩ := hrel
        obtain rfl : w1 = wr := hw.symm
        have hxz : x.size ≤ 6 := by
          have h1 := congrArg ByteArray.size HX.out
          have h2 := HHZ.out
          unfold hexGo at h1
          split at h1
          · omega
          · rw [ByteArray.size_append] at h1; omega
        by_cases hu : u = 0
        · subst hu
          have HE := hid (HX.out.trans (show hexGo 0 x = x from if_pos rfl))
          have hcz : ¬ ((⟨#[38, 35, 120]⟩ : ByteArray).size + x.size > 9223372036854775807) := by show ¬ (3 + x.size > _); omega
          have hcz2 : ¬ (3 + x.size > 9223372036854775807) := by omega
          have hcz3 : ¬ (9223372036854775807 < 3 + x.size) := by omega
          have hcy : ¬ (((⟨#[38, 35, 120]⟩ : ByteArray) ++ x).size + (⟨#[59]⟩ : ByteArray).size > 9223372036854775807) := by rw [ByteArray.size_append]; show ¬ (3 + x.size + 1 > _); omega
          have hcy2 : ¬ (3 + x.size + 1 > 9223372036854775807) := by omega
          have hcy3 : ¬ (9223372036854775807 < 3 + x.size + 1) := by omega
          have hcy4 : ¬ (9223372036854775807 < ((⟨#[38, 35, 120]⟩ : ByteArray) ++ x).size + 1) := by rw [ByteArray.size_append]; show ¬ (_ < 3 + x.size + 1); omega
          clear hku
          go_wp2_with fail
          go_ret
          rw [HWR.out, HE.out]
          exact ⟨rfl, HB1.out⟩
        · have hu0 : (0 : Int) < (u : Int) := by omega
          have hl : ¬ (1 + x.size > 9223372036854775807) := by omega
          have hl2 : ¬ (9223372036854775807 < 1 + x.size) := by omega
          have hb : (⟨#[48, 49, 50, 51, 52, 53, 54, 55, 56, 57, 97, 98, 99, 100, 101, 102]⟩ : ByteArray).extract (u % 16) (u % 16 + 1) = oneD (dg (u % 16)) := digT_at ⟨u % 16, Nat.mod_lt _ (by decide)⟩
          have HBD := hid hb
          have HNX := hid (HX.out.trans (hexGo_next hu x))
          have HKU := hid hku
          clear hb hku
          go_wp2_with fail
          go_roundg (u / 16)
          case measure => have := HKU.out; omega
          case rel =>
            rw [HBD.out]
            exact ⟨u / 16, oneD (dg (u % 16)) ++ x, (by congr 1; have := HUK.out; have := HK16.out; unfold wrap32; omega), rfl, rfl, Nat.le_refl _, (by show _ ≤ _; have := HUK.out; omega), HNX⟩
end Go.Proofs.YtddbbgjpfdcjfaaDoor
