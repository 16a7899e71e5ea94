/- The walk of the law EntityWrites. -/
import Derived.Test.YtddbbgjpfdcjfaaDoorEnU
import Derived.Test.YtddbbgjpfdcjfaaDoorAppC
namespace Go.Proofs.YtddbbgjpfdcjfaaDoor.entityWrites
open Go.RowKit
open Go.Lib (hid)
set_option linter.unusedVariables false

set_option maxRecDepth 100000 in
set_option maxHeartbeats 8000000 in
theorem walk (r : Int) (a : Option Addr) (aLen aCap : Nat) (aD : List Int) (w : World) (w0 : (Lit.int .i32 r).wf = true) (w1 : IsRow .u8 w a aLen aCap aD) (hdb : Db w) :
    Calls Tryd.prog 6 #[.int .i32 r, .slice a aLen aCap] w fun e w' => e = .returned (.bool true) ∧ Below w.heap.size w w' := by
  obtain ⟨m, hs⟩ := ba_of w1
  have HAW := hid (awake_any w)
  have HDB := hid hdb
  clear w0 w1 hdb
  by_cases hbig : 60 < aLen
  · have hbig' : (60 : Int) < (aLen : Int) := by omega
    clear hs
    go_enter Tryd.func6, Tryd.ntmps6
    go_wp2_with fail
    refine HAW.out.mono ?_
    rintro e w3 ⟨rfl, hb3⟩
    go_wp2_with fail
    go_ret
    exact ⟨rfl, hb3⟩
  have hbig' : ¬ (60 : Int) < (aLen : Int) := by omega
  have ha60 : aLen ≤ 60 := by omega
  have HS := hid hs
  clear hs hbig
  go_enter Tryd.func6, Tryd.ntmps6
  go_wp2_with fail
  refine HAW.out.mono ?_
  rintro e w3 ⟨rfl, hb3⟩
  have HB3 := hid hb3
  have HEW := hid (entwrite_any r w3 (HDB.out.below hb3 (Nat.le_refl _)))
  have HRW := hid (fun W => refwrite_any r W)
  clear hb3 HAW HDB
  have hne := @write_none r
  have hrd := fun (h0 : r ≠ 0) (hr : rightV r) => write_read h0 hr m
  have hsz : (writeR r).size ≤ 10 := by
    by_cases h : r = 0 ∨ ¬ rightV r
    · rw [hne.2 h]; exact Nat.zero_le _
    · exact (write_read (fun e => h (.inl e)) (Classical.byContradiction fun e => h (.inr e)) m).2.1
  generalize writeR r = S at *
  have HNE := hid hne
  have HRD := hid hrd
  clear hne hrd
  go_wp2_with fail
  refine HEW.out.mono ?_
  rintro e w4 ⟨rfl, hb4⟩
  have HB4 := hid (HB3.out.trans (hb4.mono HB3.out.size))
  clear hb4
  go_wp2_with fail
  refine (HRW.out w4).mono ?_
  rintro e w5 ⟨rfl, hb5⟩
  have HB5 := hid (HB4.out.trans (hb5.mono HB4.out.size))
  clear hb5 HEW HRW
  have hself : (S.toList == S.toList) = true := by simp
  have hcv := Lib.run_convert_string_bytes (P := Tryd.prog) w5 9 22 5 S Tryd.underlying9 Tryd.underlying22 Tryd.underlying5
  have HBA := hid ((HS.out.below HB5.out (Nat.le_refl _)).below (bytesWorld_below w5 5 S) (Nat.le_refl _))
  go_wp2_with (at_builtin; go_must (refine wpList_append_conv rfl (.tmp 24) (.tmp 25) rfl w5 S m rfl a aLen aCap rfl HBA.out (by omega) (by omega) ?_); intro A6 c6 w6 hba6 hb6)
  have HB6 := hid (HB5.out.trans (hb6.mono HB5.out.size))
  have her := entread_any A6 (S.size + aLen) c6 0 (S ++ m) w6 hba6 (by omega) (by decide)
  clear hb6 hba6 hcv hself
  by_cases hz : r = 0
  · subst hz
    have hS := HNE.out.2 (.inl rfl)
    subst hS
    generalize entR _ 0 = q at her
    simp only [pairV] at her
    generalize (q.getD (0, 0)).1 = x at her
    generalize (q.getD (0, 0)).2 = z at her
    have HER := hid her
    clear her
    refine HER.out.mono ?_
    rintro e w7 ⟨rfl, hb7⟩
    have HB7 := hid (HB6.out.trans (hb7.mono HB6.out.size))
    clear hb7
    go_wp2_with fail
    go_ret
    exact ⟨rfl, HB7.out⟩
  have hzb : (r == 0) = false := by simpa using hz
  have hrr := fun W => refright_any r W
  cases hrb : rightR r
  · have hnr : ¬ rightV r := fun h => by rw [(rightR_iff r).2 h] at hrb; cases hrb
    have hS := HNE.out.2 (.inr hnr)
    subst hS
    rw [hrb] at hrr
    generalize entR _ 0 = q at her
    simp only [pairV] at her
    generalize (q.getD (0, 0)).1 = x at her
    generalize (q.getD (0, 0)).2 = z at her
    have HER := hid her
    have HRR := hid hrr
    clear her hrr hnr hz hrb
    refine HER.out.mono ?_
    rintro e w7 ⟨rfl, hb7⟩
    have HB7 := hid (HB6.out.trans (hb7.mono HB6.out.size))
    clear hb7
    go_wp2_with (go_at_call 18; refine (HRR.out _).mono ?_; rintro e w2 ⟨rfl, hw2⟩; obtain rfl : w7 = w2 := hw2.symm)
    go_ret
    exact ⟨rfl, HB7.out⟩
  · obtain ⟨h1, h2, h3⟩ := HRD.out hz ((rightR_iff r).1 hrb)
    rw [h1] at her
    simp only [pairV, Option.getD_some] at her
    rw [hrb] at hrr
    have HER := hid her
    have HRR := hid hrr
    have h10 : (S.size : Int) ≤ 10 := by omega
    clear her hrr hz hrb h1 h2 h3
    refine HER.out.mono ?_
    rintro e w7 ⟨rfl, hb7⟩
    have HB7 := hid (HB6.out.trans (hb7.mono HB6.out.size))
    clear hb7
    go_wp2_with (go_at_call 18; refine (HRR.out _).mono ?_; rintro e w2 ⟨rfl, hw2⟩; obtain rfl : w7 = w2 := hw2.symm)
    go_ret
    exact ⟨rfl, HB7.out⟩
end Go.Proofs.YtddbbgjpfdcjfaaDoor.entityWrites
