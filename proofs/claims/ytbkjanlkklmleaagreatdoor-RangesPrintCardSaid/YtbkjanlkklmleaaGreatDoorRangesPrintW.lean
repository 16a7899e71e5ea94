/- The walk of the law RangesPrint. -/
import Derived.Test.YtbkjanlkklmleaaGreatDoorRgL
import Derived.Test.YtbkjanlkklmleaaGreatDoorRgAw
import Derived.Test.YtbkjanlkklmleaaGreatDoorRgPr
import Derived.Test.YtbkjanlkklmleaaGreatDoorOpenRows
namespace Go.Proofs.YtbkjanlkklmleaaGreatDoor.rangesPrint
open Go.RowKit
open Go.Lib
set_option linter.unusedVariables false
set_option maxRecDepth 100000

theorem in32R {l : List Rg} (h : rightR l) : In32 l := fun x hx => by
  obtain ⟨a, b, c⟩ := right_ok h x hx
  exact ⟨⟨by omega, by omega⟩, ⟨by omega, by omega⟩⟩
theorem print_size {l : List Rg} (h : ∀ x ∈ l, okR x) (hl : l.length ≤ 30) : (mkB (printD l)).size ≤ 1000 := by
  rw [mkB_size]
  cases l with
  | nil => decide
  | cons x l =>
    have h1 := tailD_len l fun y hy => h y (List.mem_cons_of_mem _ hy)
    have h2 := (itemD_len (h x (List.mem_cons_self ..))).2
    rw [List.length_cons] at hl
    rw [printD, List.length_append]
    omega
/-- The law's last part: any text. -/
def LastP (s : ByteArray) (w : World) : Prop := True
set_option maxHeartbeats 4000000 in
theorem walk (a : Option Addr) (aLen aCap : Nat) (aD : List (List Value)) (s : ByteArray) (w : World) (w0 : IsAggRow [.int .i32, .int .i32] w a aLen aCap aD) (w1 : s.size ≤ maxLen) (hsh : w.ShapedOpen Tryz.prog) (hdb : Db w) (hev : ErrV w) :
    Calls Tryz.prog 3 #[.slice a aLen aCap, .string s] w fun e w' => e = .returned (.bool true) ∧ Below w.heap.size w w' := by
  obtain ⟨l, hl, h32⟩ := rr_of w0
  have hs63 : (s.size : Int) ≤ 9223372036854775807 := by unfold maxLen at w1; omega
  have HAW := hid (fun W h => awake_any W h)
  obtain ⟨m, hm1⟩ := Tryz.laysRp146.s1_3 w hsh
  have hm : MaxV m w := ⟨hm1, hm1⟩
  have HL := hid hl
  have HDB := hid hdb
  have HEV := hid hev
  have HM := hid hm
  have H32 := hid h32
  have hcap := hl.2.1
  have hcm := hl.2.2.1
  clear w0 w1 hsh hm1 hl hdb hev hm h32
  by_cases hn : 30 < aLen
  · have hn' : 30 < (aLen : Int) := by omega
    have HA := hid (HAW.out w HDB.out)
    clear hn
    go_enter Tryz.func3, Tryz.ntmps3
    go_wp2_with fail
    refine HA.out.mono ?_
    rintro e w2 ⟨rfl, hb2⟩
    have HB2 := hid hb2
    clear hb2
    go_wp2_with fail
    go_ret
    exact ⟨rfl, HB2.out⟩
  have hn' : ¬ 30 < (aLen : Int) := by omega
  by_cases hs : 200 < s.size
  · have hs' : 200 < (s.size : Int) := by omega
    have HA := hid (HAW.out w HDB.out)
    clear hn hs
    go_enter Tryz.func3, Tryz.ntmps3
    go_wp2_with fail
    refine HA.out.mono ?_
    rintro e w2 ⟨rfl, hb2⟩
    have HB2 := hid hb2
    clear hb2
    go_wp2_with fail
    go_ret
    exact ⟨rfl, HB2.out⟩
  have hs' : ¬ 200 < (s.size : Int) := by omega
  have hs2 : s.size ≤ 1000 := by omega
  have hn2 : aLen ≤ 30 := by omega
  have HA := hid (HAW.out w HDB.out)
  have hkl := knownL_len l
  have hll := HL.out.1
  have HKR := hid (knownL_right l)
  have hk30 : (knownL l).length ≤ 30 := by omega
  have HPZ := hid (print_size (right_ok HKR.out) hk30)
  have HLL := hid hll
  clear hn hs hkl hll
  go_enter Tryz.func3, Tryz.ntmps3
  go_wp2_with fail
  refine HA.out.mono ?_
  rintro e w2 ⟨rfl, hb2⟩
  have HB2 := hid hb2
  have HKN := hid (refknown_any a aLen aCap l w2 (HL.out.below hb2 (Nat.le_refl _)) (by omega) H32.out)
  clear hb2
  go_wp2_with fail
  refine HKN.out.mono ?_
  rintro e w3 ⟨A3, n3, c3, rfl, hr3, hb3⟩
  have HR3 := hid hr3
  have hn3 : n3 ≤ 30 := by have := hr3.1; omega
  have HB3 := hid (HB2.out.trans (hb3.mono HB2.out.size))
  have HTO := hid (to_any a aLen aCap l w3 (HL.out.below HB3.out (Nat.le_refl _)) (by omega))
  clear hr3 hb3
  go_wp2_with fail
  refine HTO.out.mono ?_
  rintro e w4 ⟨A4, n4, c4, rfl, hr4, hb4⟩
  have HB34 := hid hb4
  have HB4 := hid (HB3.out.trans (hb4.mono HB3.out.size))
  have hn4 : n4 ≤ 1000000 := by have := hr4.1; have := HLL.out; omega
  have HPR := hid (print_any A4 n4 c4 l w4 hr4 hn4 H32.out (HDB.out.below HB4.out (Nat.le_refl _)))
  clear hr4 hb4
  obtain ⟨k, hk⟩ : ∃ k, k = knownL l := ⟨_, rfl⟩
  rw [← hk] at HPR HKR HPZ HR3 hk30
  clear hk
  go_wp2_with fail
  refine HPR.out.mono ?_
  rintro e w5 ⟨rfl, hb5⟩
  have HB35 := hid (HB34.out.trans (hb5.mono HB34.out.size))
  have HB5 := hid (HB4.out.trans (hb5.mono HB4.out.size))
  have HPA := hid (rgparse_any (mkB (printD k)) HPZ.out m w5 (HM.out.below HB5.out (Nat.le_refl _)) (HEV.out.below HB5.out (Nat.le_refl _)) (HDB.out.below HB5.out (Nat.le_refl _)))
  clear hb5
  obtain ⟨T, hT⟩ : ∃ T, T = mkB (printD k) := ⟨_, rfl⟩
  have HT := hid hT
  rw [← hT] at HPA ⊢
  clear hT
  go_wp2_with fail
  refine HPA.out.mono ?_
  rintro e w6 ⟨A6, n6, c6, z6, u6, rfl, hr6, hn6, hu6, hz6, hk6, hb6⟩
  have hz : z6 = 0 := hk6 k HKR.out (by omega) HT.out
  have huk : u6 = k := by
    rcases hz6 with ⟨_, h⟩ | ⟨h, _⟩
    · exact printD_inj (right_ok hu6) (right_ok HKR.out) (mkB_inj (h.symm.trans HT.out))
    · rw [hz] at h; cases h
  subst hz huk
  have HR6 := hid hr6
  have HR36 := hid (HR3.out.below (HB35.out.trans (hb6.mono HB35.out.size)) (Nat.le_refl _))
  have HB6 := hid (HB5.out.trans (hb6.mono HB5.out.size))
  have HRP := hid (refprint_any A3 n3 c3 u6 w6 HR36.out (by omega) (right_ok HKR.out))
  rw [← HT.out] at HRP
  clear hr6 hb6 hz6 hk6 hu6
  go_wp2_with fail
  refine HRP.out.mono ?_
  rintro e w7 ⟨rfl, hb7⟩
  have HB7 := hid (HB6.out.trans (hb7.mono HB6.out.size))
  have HIS := hid (is_any A6 n6 c6 u6 A3 n3 c3 u6 w7 (HR6.out.below hb7 (Nat.le_refl _)) (HR36.out.below hb7 (Nat.le_refl _)) (by omega))
  rw [show sameB u6 u6 = true from decide_eq_true rfl] at HIS
  have htt : (T.toList == T.toList) = true := by simp
  clear hb7
  go_wp2_with fail
  refine HIS.out.mono ?_
  rintro e w8 ⟨rfl, hb8⟩
  have HB8 := hid (HB7.out.trans (hb8.mono HB7.out.size))
  have HPS := hid (rgparse_any s hs2 m w8 (HM.out.below HB8.out (Nat.le_refl _)) (HEV.out.below HB8.out (Nat.le_refl _)) (HDB.out.below HB8.out (Nat.le_refl _)))
  clear hb8
  go_wp2_with fail
  refine HPS.out.mono ?_
  rintro e w9 ⟨A9, n9, c9, z9, u9, rfl, hr9, hn9, hu9, hz9, _, hb9⟩
  have HB9 := hid (HB8.out.trans (hb9.mono HB8.out.size))
  have HR9 := hid hr9
  have HU9 := hid hu9
  clear hr9 hb9 hu9
  rcases hz9 with ⟨rfl, hs9⟩ | ⟨rfl, rfl⟩
  · have HRI := hid (isright_any A9 n9 c9 u9 w9 HR9.out hn9 (in32R HU9.out))
    rw [(rightB_iff u9).2 HU9.out] at HRI
    have HS9 := hid hs9
    have hss : (s.toList == s.toList) = true := by simp
    clear hs9
    go_wp2_with fail
    refine HRI.out.mono ?_
    rintro e w10 ⟨rfl, hb10⟩
    have HB10 := hid (HB9.out.trans (hb10.mono HB9.out.size))
    have HP10 := hid (print_any A9 n9 c9 u9 w10 (HR9.out.below hb10 (Nat.le_refl _)) hn9 (in32R HU9.out) (HDB.out.below HB10.out (Nat.le_refl _)))
    rw [knownL_of HU9.out, ← HS9.out] at HP10
    clear hb10
    go_wp2_with fail
    refine HP10.out.mono ?_
    rintro e w11 ⟨rfl, hb11⟩
    have HB11 := hid (HB10.out.trans (hb11.mono HB10.out.size))
    clear hb11
    go_wp2_with fail
    go_ret
    exact ⟨rfl, HB11.out⟩
  · have hn0 : n9 = 0 := HR9.out.1
    subst hn0
    go_wp2_with fail
    go_ret
    exact ⟨rfl, HB9.out⟩
end Go.Proofs.YtbkjanlkklmleaaGreatDoor.rangesPrint
