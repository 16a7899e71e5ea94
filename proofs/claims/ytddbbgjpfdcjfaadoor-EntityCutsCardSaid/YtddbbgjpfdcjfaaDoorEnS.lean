/- Chapter 16: references are written: walks. -/
import Derived.Test.YtddbbgjpfdcjfaaDoorEnO
import Derived.Test.YtddbbgjpfdcjfaaDoorEnQ
import Derived.Deep.DeepCutAuto
namespace Go.Proofs.YtddbbgjpfdcjfaaDoor
open Go.RowKit
open Go.Shelf
open Go.Lib (hid)
set_option linter.unusedVariables false

theorem nameOf_at {r : Int} {k : Nat} (hk : k < 26) (h1 : (nameAt k).2 = r) (h : ∀ j, j < k → (nameAt j).2 ≠ r) : nameOf r = some (nameAt k).1 := by
  have hl := names_len
  unfold nameOf
  rw [find_first (fun x_1 => decide (x_1.2 = r)) names k (by omega) (by rw [← nameAt_is (by omega)]; exact decide_eq_true h1) (fun j hj => by rw [← nameAt_is (by omega)]; exact decide_eq_false (h j hj)), nameAt_is (by omega)]
  rfl
theorem nameOf_no {r : Int} (h : ∀ j, j < 26 → (nameAt j).2 ≠ r) : nameOf r = none := by
  unfold nameOf
  rw [find_nothing _ names fun j hj => by
    have hj' : j < 26 := by rw [← names_len]; exact hj
    rw [← nameAt_is hj]
    exact decide_eq_false (h j hj')]
  rfl
theorem write_name {r : Int} {n : ByteArray} (h : ¬ (r = 0 ∨ ¬ rightV r)) (hn : nameOf r = some n) : writeR r = ampB ++ n ++ semiC := by unfold writeR; rw [if_neg h, hn]
theorem write_hex {r : Int} (h : ¬ (r = 0 ∨ ¬ rightV r)) (hn : nameOf r = none) : writeR r = hexH ++ hexB r.toNat ++ semiC := by unfold writeR; rw [if_neg h, hn]

set_option maxRecDepth 100000 in
set_option maxHeartbeats 8000000 in
theorem entwrite_any (r : Int) (w : World) (hdb : Db w) :
    Calls Tryd.prog 16 #[.int .i32 r] w fun e w' => e = .returned (.string (writeR r)) ∧ Below w.heap.size w w' := by
  obtain ⟨q, hq⟩ : ∃ q, q = decide (r = 0 ∨ ¬ rightV r) := ⟨_, rfl⟩
  have hpb := put_broken r
  have HQ := hid hq
  have HDB := hid hdb
  have hput := fun (r : Int) (W : World) => put_any r W
  have HPUT := hid hput
  have hM := putF_mem
  have HM := hid hM
  have hix := index_rows
  have HIX := hid hix
  clear hput hM hq hdb hix
  go_enter Tryd.func16, Tryd.ntmps16
  go_upto_region 1 with fail
  go_cut [18] (fun s18 wx => s18 = .bool q ∧ Hid (Below w.heap.size w wx))
  case first =>
    by_cases hz : r = 0
    · subst hz
      have HR := hid (show q = true by rw [HQ.out]; exact decide_eq_true (.inl rfl))
      clear hpb
      go_quiet (fail)
      go_wp2_with fail
      go_meet
      rw [HR.out]
      exact ⟨rfl, below_drewN _ _ _⟩
    · have hzb : (r == 0) = false := by simpa using hz
      by_cases hb : r = 65533
      · subst hb
        have HR := hid (show q = false by rw [HQ.out]; exact decide_eq_false (fun h => h.elim (by decide) fun h => h (by decide)))
        clear hpb
        go_quiet (fail)
        go_wp2_with fail
        go_meet
        rw [HR.out]
        exact ⟨rfl, below_drewN _ _ _⟩
      · have hbb : (r == 65533) = false := by simpa using hb
        have hbn : (r != 65533) = true := by simpa using hb
        have hbd : Below w.heap.size w w.drew := ⟨rfl, rfl, rfl, Nat.le_refl _, fun _ _ => rfl⟩
        have HBD := hid hbd
        have hteq : ((ofInts (putF r)).toList == (ofInts (putF 65533)).toList) = q := by
          rw [str_beq, HQ.out]
          refine decide_eq_decide.2 (hpb.trans ⟨fun h => .inr (h.resolve_right hb), fun h => .inl (h.resolve_left hz)⟩)
        generalize hz1 : ofInts (putF r) = z1 at *
        generalize hz2 : ofInts (putF 65533) = z2 at *
        have HZ1 := hid hz1
        have HZ2 := hid hz2
        clear hz1 hz2 hpb hbd hz hb
        go_region_with (first
          | (go_at_call 31; refine (HPUT.out _ _).mono ?_; rintro e w6 ⟨v6, rfl, hn6, hb6⟩; have hb56 := HB5.out.trans (hb6.mono HB5.out.size); have hc6 := conv_new hn6 (HM.out _) w6 (Below.refl _ _); rw [HZ2.out] at hc6; have hc7 := conv_new HN5.out (HM.out _) w6 hb6; rw [HZ1.out] at hc7; have HB6 := hid hb56; clear hb6 hb56 hn6)
          | (go_at_call 31; refine (HPUT.out _ _).mono ?_; rintro e w5 ⟨v5, rfl, hn5, hb5⟩; have hb45 := HBD.out.trans hb5; have hc5 := conv_new hn5 (HM.out _) w5 (Below.refl _ _); rw [HZ1.out] at hc5; have HN5 := hid hn5; have HB5 := hid hb45; clear hb5 hb45 hn5))
        all_goals
          go_wp2_with fail
          go_meet
          exact ⟨rfl, HB6.out⟩
  case rest =>
    obtain ⟨rfl, HBC⟩ := hcut
    clear hpb HPUT HM
    cases q
    · have hno : ¬ (r = 0 ∨ ¬ rightV r) := of_decide_eq_false HQ.out.symm
      have hrv : rightV r := Classical.byContradiction fun h => hno (.inr h)
      have hwn := fun n => write_name (r := r) (n := n) hno
      have hwh := write_hex (r := r) hno
      obtain ⟨hs6, hsr⟩ := right_small hrv
      have HWN := hid hwn
      have HWH := hid hwh
      have HS6 := hid hs6
      obtain ⟨k0, hk0⟩ : ∃ k0, k0 = r.toNat := ⟨_, rfl⟩
      have hrk : r = (k0 : Int) := by rw [hk0]; exact hsr.symm
      have HRK := hid hrk
      have HK0 := hid hk0
      clear hno hrv hwn hwh hs6 hsr hk0 hrk HQ
      go_wp2_with fail
      refine (rows_any wc).mono ?_
      rintro e w1 ⟨rfl, hb1⟩
      have HB1 := hid (HBC.out.trans (hb1.mono HBC.out.size))
      clear hb1 HBC
      go_wp2_with fail
      go_loopg [20] 26 (fun kx s20 wr => ∃ i : Nat, s20 = .int .i64 i ∧ i ≤ 26 ∧ 26 - i ≤ kx ∧ Hid (Below w.heap.size w wr) ∧ Hid (∀ j, j < i → (nameAt j).2 ≠ r))
      case atStart => exact ⟨0, rfl, Nat.zero_le _, by omega, HB1.out, fun j hj => absurd hj (Nat.not_lt_zero _)⟩
      case round =>
        obtain ⟨i, rfl, hi, hg, HB, A⟩ := hrel
        by_cases hlt : i < 26
        · have hlt' : (i : Int) < 26 := by omega
          have hix := fun W => HIX.out i hlt W
          have hil : i < names.length := by rw [names_len]; exact hlt
          have hz6 : (nameAt i).1.size ≤ 6 := by rw [nameAt_is hil]; exact (names_fact (List.getElem_mem hil)).2.1
          have hna : (nameAt i).2 = r → nameOf r = some (nameAt i).1 := fun h => nameOf_at hlt h A.out
          have hnext : (nameAt i).2 ≠ r → ∀ j, j < i + 1 → (nameAt j).2 ≠ r := fun h j hj => by
            by_cases e : j = i
            · subst e; exact h
            · exact A.out j (by omega)
          generalize (nameAt i).1 = x at *
          generalize (nameAt i).2 = z at *
          have HNA := hid hna
          have HNX := hid hnext
          have hcz : ¬ ((⟨#[38]⟩ : ByteArray).size + x.size > 9223372036854775807) := by show ¬ (1 + x.size > _); omega
          have hcz2 : ¬ (1 + x.size > 9223372036854775807) := by omega
          have hcz3 : ¬ (9223372036854775807 < 1 + x.size) := by omega
          have hcy : ¬ (((⟨#[38]⟩ : ByteArray) ++ x).size + (⟨#[59]⟩ : ByteArray).size > 9223372036854775807) := by rw [ByteArray.size_append]; show ¬ (1 + x.size + 1 > _); omega
          have hcy2 : ¬ (1 + x.size + 1 > 9223372036854775807) := by omega
          have hcy3 : ¬ (9223372036854775807 < 1 + x.size + 1) := by omega
          have hcy4 : ¬ (9223372036854775807 < ((⟨#[38]⟩ : ByteArray) ++ x).size + 1) := by rw [ByteArray.size_append]; show ¬ (_ < 1 + x.size + 1); omega
          clear hna hnext
          go_upto_region 6 with fail
          have hb2 := HB.out.alloc HB.out.size (.cells #[.string x, .int .i32 z] 52)
          have hr2 := Blk.new wr 52 #[.string x, .int .i32 z]
          generalize wr.alloc (.cells #[.string x, .int .i32 z] 52) = w2 at *
          have c0 := hr2.cell 0
          have c1 := hr2.cell 1
          simp only [List.getElem?_toArray, List.getElem?_cons_zero, List.getElem?_cons_succ] at c0 c1
          have HB2 := hid hb2
          clear hb2 hr2
          by_cases hz : z = r
          · have hwr := HWN.out x (HNA.out hz)
            have HWR := hid hwr
            subst hz
            clear hwr
            go_wp2_with fail
            go_ret
            rw [HWR.out]
            exact ⟨rfl, HB2.out⟩
          · have hzb : (z == r) = false := by simpa using hz
            have HN2 := hid (HNX.out hz)
            clear hz hcz hcz2 hcz3 hcy hcy2 hcy3 hcy4
            go_wp2_with fail
            go_roundg (26 - (i + 1))
            case measure => omega
            case rel => exact ⟨i + 1, by go_num, by omega, Nat.le_refl _, HB2, HN2⟩
        · have hlt' : ¬ (i : Int) < 26 := by omega
          have hwr := HWH.out (nameOf_no fun j hj => A.out j (by omega))
          rw [← HK0.out] at hwr
          have hs6 := HS6.out
          rw [← HK0.out] at hs6
          have hhz : (hexB k0).size ≤ 6 := by rw [hexB_size]; exact hexD_len 6 _ (by decide) hs6
          have hsf := fun (W : World) (hW : Below w.heap.size w W) => sformatInt_any k0 (by have : (16 : Nat) ^ 6 = 16777216 := rfl; omega) W (HDB.out.below hW (Nat.le_refl _))
          generalize hexB k0 = D at *
          have hcz : ¬ ((⟨#[38, 35, 120]⟩ : ByteArray).size + D.size > 9223372036854775807) := by show ¬ (3 + D.size > _); omega
          have hcz2 : ¬ (3 + D.size > 9223372036854775807) := by omega
          have hcz3 : ¬ (9223372036854775807 < 3 + D.size) := by omega
          have hcy : ¬ (((⟨#[38, 35, 120]⟩ : ByteArray) ++ D).size + (⟨#[59]⟩ : ByteArray).size > 9223372036854775807) := by rw [ByteArray.size_append]; show ¬ (3 + D.size + 1 > _); omega
          have hcy2 : ¬ (3 + D.size + 1 > 9223372036854775807) := by omega
          have hcy3 : ¬ (9223372036854775807 < 3 + D.size + 1) := by omega
          have hcy4 : ¬ (9223372036854775807 < ((⟨#[38, 35, 120]⟩ : ByteArray) ++ D).size + 1) := by rw [ByteArray.size_append]; show ¬ (_ < 3 + D.size + 1); omega
          have HWR := hid hwr
          have HSF := hid (hsf wr HB.out)
          have hw6 : wrap64 (k0 : Int) = (k0 : Int) := by have : (16 : Nat) ^ 6 = 16777216 := rfl; unfold wrap64; omega
          have hrk := HRK.out
          subst hrk
          clear hwr hs6 hsf hi hg hlt hhz
          go_wp2_with fail
          refine HSF.out.mono ?_
          rintro e w2 ⟨rfl, hb2⟩
          have HB2 := hid (HB.out.trans (hb2.mono HB.out.size))
          clear hb2
          go_wp2_with fail
          go_ret
          rw [HWR.out]
          exact ⟨rfl, HB2.out⟩
    · have HR := hid (show writeR r = ⟨#[]⟩ from write_none.2 (of_decide_eq_true HQ.out.symm))
      go_wp2_with fail
      go_ret
      rw [HR.out]
      exact ⟨rfl, HBC.out⟩
end Go.Proofs.YtddbbgjpfdcjfaaDoor
