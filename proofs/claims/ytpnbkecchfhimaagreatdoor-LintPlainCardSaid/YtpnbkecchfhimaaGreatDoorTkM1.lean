/- Texts of TkA, TkB, TkC, TkD, AppK, TkE, TkF, merged by a program of mine. -/
import Derived.Test.YtpnbkecchfhimaaGreatDoorTkM0
import Derived.Lib.ConvBytes
import Derived.Deep.LoopGhost
import Derived.Outline
import Derived.Lib.SlBytesConst
import Derived.StillTailTactics
import Derived.Test.YtpnbkecchfhimaaGreatDoorWords
import Derived.Maps.AppendAt
import Derived.Maps.OwnIn
import Derived.RangeFuncNested
import Derived.RangeFuncBound
import Derived.RangeFuncCalls
import Derived.RangeFuncLeaves
import Derived.RangeFuncBox
import Derived.Shelf.Abstract
import Derived.Shelf.RegionOpen
import Derived.WalkKit
import Derived.OwnWalkIn
import Derived.TacticsInMore
import Derived.LoopNIn
import Derived.LoopIn
import Derived.Test.YtpnbkecchfhimaaGreatDoorProg
import Derived.Sort.CutIn
import Derived.Deep.AppendLies

/- out of TkA -/
namespace Go.Proofs.YtpnbkecchfhimaaGreatDoor
open Go.RowKit
open Go.Lib (hid)
set_option linter.unusedVariables false
set_option maxRecDepth 100000

theorem raws_any (x : ByteArray) (w : World) : Calls Tryz.prog 95 #[.string x] w fun e w' => e = .returned (.bool (rawsB x)) ∧ w' = w := by
  by_cases h1 : x = scriptB
  · subst h1
    have HR := hid (show rawsB scriptB = true from rfl)
    unfold scriptB
    go_enter Tryz.func95, Tryz.ntmps95
    go_wp2_with fail
    go_ret
    exact ⟨ret_bool HR.out.symm, rfl⟩
  have k1 : ¬ x.toList = [115, 99, 114, 105, 112, 116] := fun h => h1 (by
    rw [Lib.toList_data] at h
    exact ByteArray.ext (Array.toList_inj.1 (h.trans rfl)))
  have b1 : (x.toList == [115, 99, 114, 105, 112, 116]) = false := by simpa using k1
  by_cases h2 : x = styleB
  · subst h2
    have HR := hid (show rawsB styleB = true from rfl)
    unfold styleB
    go_enter Tryz.func95, Tryz.ntmps95
    go_wp2_with fail
    go_ret
    exact ⟨ret_bool HR.out.symm, rfl⟩
  have k2 : ¬ x.toList = [115, 116, 121, 108, 101] := fun h => h2 (by
    rw [Lib.toList_data] at h
    exact ByteArray.ext (Array.toList_inj.1 (h.trans rfl)))
  have b2 : (x.toList == [115, 116, 121, 108, 101]) = false := by simpa using k2
  have HR := hid (show rawsB x = false by unfold rawsB; rw [decide_eq_false h1, decide_eq_false h2]; rfl)
  clear h1 h2
  go_enter Tryz.func95, Tryz.ntmps95
  go_wp2_with fail
  go_ret
  exact ⟨ret_bool HR.out.symm, rfl⟩

/-- What may stand behind an end tag's name. -/
def endL : List Int := [9, 10, 12, 13, 32, 47, 62]
def endB (c : Int) : Bool := blankB c || decide (c = 47) || decide (c = 62)
theorem endB_mem (c : Int) : endB c = true ↔ c ∈ endL := by
  unfold endB blankB endL
  simp
  omega
def endC : Array Value := #[.int .u8 9, .int .u8 10, .int .u8 12, .int .u8 13, .int .u8 32, .int .u8 47, .int .u8 62]
theorem endC_get : ∀ k : Fin 7, endC[k.val]? = some (.int .u8 (endL.getD k.val 0)) := fun k => by
  match k with
  | ⟨0, _⟩ => rfl
  | ⟨1, _⟩ => rfl
  | ⟨2, _⟩ => rfl
  | ⟨3, _⟩ => rfl
  | ⟨4, _⟩ => rfl
  | ⟨5, _⟩ => rfl
  | ⟨6, _⟩ => rfl
theorem endL_all {c : Int} (h : ∀ j, j < 7 → endL.getD j 0 ≠ c) : endB c = false := by
  rw [Bool.eq_false_iff]
  intro hc
  have hm := (endB_mem c).1 hc
  obtain ⟨j, hj, e⟩ := List.mem_iff_getElem.1 hm
  refine h j hj ?_
  rw [List.getD_eq_getElem?_getD, List.getElem?_eq_getElem hj]
  exact e
theorem endL_in {c : Int} {j : Nat} (hj : j < 7) (h : endL.getD j 0 = c) : endB c = true := by
  refine (endB_mem c).2 ?_
  rw [← h, List.getD_eq_getElem?_getD, List.getElem?_eq_getElem (show j < endL.length from hj)]
  exact List.getElem_mem _
set_option maxHeartbeats 1000000 in
theorem index7_any (q : Nat) (c : Int) (w : World) (hq : ∀ k, k < 7 → w.cell? ⟨q, k, none⟩ = some (.int .u8 (endL.getD k 0))) :
    Calls Tryz.prog 189 #[.slice (some ⟨q, 0, none⟩) 7 7, .int .u8 c] w fun e w' => (∃ j : Int, e = .returned (.int .i64 j) ∧ decide (0 ≤ j) = endB c ∧ -1 ≤ j ∧ j ≤ 7) ∧ w' = w := by
  have HC := hid hq
  clear hq
  go_enter Tryz.func189, Tryz.ntmps189
  go_wp2_with fail
  go_loopg [8] 7 (fun kx s8 wr => ∃ i : Nat, s8 = .int .i64 i ∧ i ≤ 7 ∧ 7 - i ≤ kx ∧ wr = w ∧ Hid (∀ j, j < i → endL.getD j 0 ≠ c))
  case atStart => exact ⟨0, rfl, Nat.zero_le _, by omega, rfl, fun j hj => absurd hj (Nat.not_lt_zero _)⟩
  case round =>
    obtain ⟨i, rfl, hi, hg, hw, HA⟩ := hrel
    obtain rfl : w = wr := hw.symm
    by_cases hlt : i < 7
    · have hlt' : (i : Int) < 7 := by omega
      have c0 := HC.out i hlt
      by_cases he : endL.getD i 0 = c
      · have HT := hid (endL_in hlt he)
        rw [he] at c0
        have hee : (c == c) = true := by simp
        clear he
        go_wp2_with fail
        go_ret
        exact ⟨⟨i, rfl, by rw [HT.out]; exact decide_eq_true (by omega), by omega, by omega⟩, rfl⟩
      · have HA2 := hid (show ∀ j, j < i + 1 → endL.getD j 0 ≠ c from fun j hj => by
          rcases Nat.lt_or_ge j i with h | h
          · exact HA.out j h
          · obtain rfl : j = i := by omega
            exact he)
        generalize endL.getD i 0 = z at *
        have hee : (c == z) = false := by simpa using fun h => he h.symm
        clear he
        go_wp2_with fail
        go_roundg (7 - (i + 1))
        case measure => omega
        case rel => exact ⟨i + 1, by go_num, by omega, Nat.le_refl _, rfl, HA2⟩
    · have hlt' : ¬ (i : Int) < 7 := by omega
      have HF := hid (endL_all fun j hj => HA.out j (by omega))
      clear hi hg hlt
      go_wp2_with fail
      go_ret
      exact ⟨⟨-1, rfl, by rw [HF.out]; rfl, by omega, by omega⟩, rfl⟩
theorem contains7_any (q : Nat) (c : Int) (w : World) (hq : ∀ k, k < 7 → w.cell? ⟨q, k, none⟩ = some (.int .u8 (endL.getD k 0))) :
    Calls Tryz.prog 139 #[.slice (some ⟨q, 0, none⟩) 7 7, .int .u8 c] w fun e w' => e = .returned (.bool (endB c)) ∧ w' = w := by
  have H := hid (index7_any q c w hq)
  clear hq
  go_enter Tryz.func139, Tryz.ntmps139
  go_wp2_with fail
  refine H.out.mono ?_
  rintro e w2 ⟨⟨j, rfl, hj, _, _⟩, hw⟩
  obtain rfl : w = w2 := hw.symm
  have HJ := hid hj
  clear hj
  go_wp2_with fail
  go_ret
  exact ⟨ret_bool HJ.out, rfl⟩
end Go.Proofs.YtpnbkecchfhimaaGreatDoor

/- out of TkB -/
namespace Go.Proofs.YtpnbkecchfhimaaGreatDoor
open Go.RowKit
open Go.Lib (hid)
set_option linter.unusedVariables false
set_option maxRecDepth 100000

theorem toList_ne {x y : ByteArray} (h : x ≠ y) : ¬ x.toList = y.toList := fun e => h (by
  rw [Lib.toList_data, Lib.toList_data] at e
  exact ByteArray.ext (Array.toList_inj.1 e))
theorem closesB_is (s x : ByteArray) (j : Nat) : closesB s x j =
    (decide (j + 2 + x.size ≤ s.size) && decide (byt s j = 60) && decide (byt s (j + 1) = 47) && decide (lowerB (s.extract (j + 2) (j + 2 + x.size)) = x) && (decide (j + 2 + x.size = s.size) || endB (byt s (j + 2 + x.size)))) := rfl
set_option maxHeartbeats 4000000 in
theorem closes_any (a : Option Addr) (n cap i : Nat) (s x : ByteArray) (w : World) (hb : BA w a n cap s) (hm : n ≤ 1000000) (hi : i < n) (hx0 : 0 < x.size) (hx1 : x.size ≤ 1000000) :
    Calls Tryz.prog 97 #[.slice a n cap, .int .i64 i, .string x] w fun e w' => e = .returned (.bool (closesB s x i)) ∧ Below w.heap.size w w' := by
  have hns := hb.1
  have hcap := hb.2.1
  obtain ⟨b, off, rfl, hbl, hz⟩ := hb.2.2.2 (by omega)
  obtain ⟨e, he⟩ : ∃ e, e = i + 2 + x.size := ⟨_, rfl⟩
  have hec : (i : Int) + 2 + (x.size : Int) = (e : Int) := by omega
  have HIS := hid (closesB_is s x i)
  rw [← he] at HIS
  by_cases h1 : n < e
  · have HF := hid (show closesB s x i = false by rw [HIS.out, decide_eq_false (by omega)]; rfl)
    have h1' : (n : Int) < (e : Int) := by omega
    clear hb hz h1 he
    go_enter Tryz.func97, Tryz.ntmps97
    go_wp2_with fail
    go_ret
    exact ⟨ret_bool HF.out.symm, Below.refl _ _⟩
  have h1' : ¬ (n : Int) < (e : Int) := by omega
  have hi1 : i + 1 < s.size := by omega
  have c0 := bytes_cell hz (i := i) (by omega)
  have c1 := bytes_cell hz (i := i + 1) hi1
  have hi' : (i : Int) < (n : Int) := by omega
  obtain ⟨i1, hi1e⟩ : ∃ i1, i1 = i + 1 := ⟨_, rfl⟩
  have hii : (i : Int) + 1 = (i1 : Int) := by omega
  have hi1' : (i1 : Int) < (n : Int) := by omega
  rw [← hi1e] at c1
  have HI1 := hid hi1e
  by_cases h2 : byt s i = 60
  · by_cases h3 : byt s (i + 1) = 47
    · obtain ⟨j2, hj2⟩ : ∃ j2, j2 = i + 2 := ⟨_, rfl⟩
      have hjj : (i : Int) + 2 = (j2 : Int) := by omega
      have hec3 : (j2 : Int) + (x.size : Int) = (e : Int) := by omega
      have hje : j2 ≤ e := by omega
      have hec2 : e ≤ cap := by omega
      have hrow := fun W => slice_row b off n cap j2 e hje hec2 (by omega) W
      have hlow := fun W => lower_any (s.extract j2 e) (by rw [ByteArray.size_extract]; omega) W
      have hej : j2 + (e - j2) = e := by omega
      have hcv : (convert 22 9 (.slice (some ⟨b, off + j2, none⟩) (e - j2) (cap - j2))).run Tryz.prog w = .ok (.string (s.extract j2 e)) w := by
        have := Lib.run_convert_window (P := Tryz.prog) w 22 5 9 Tryz.underlying22 Tryz.underlying5 Tryz.underlying9 b off s hz j2 (e - j2) (cap - j2) (by omega)
        rwa [hej] at this
      have hde : decide (e ≤ s.size) = true := decide_eq_true (by omega)
      have hlt : ¬ (e : Int) = (n : Int) → (e : Int) < (n : Int) := by omega
      have cE := fun (h : e < s.size) => bytes_cell hz h
      rw [hde, decide_eq_true h2, decide_eq_true h3, ← hj2] at HIS
      rw [h2] at c0
      rw [show byt s i1 = 47 by rw [hi1e]; exact h3] at c1
      have HLOW := hid hlow
      have HC := hid cE
      have HCV := hid hcv
      generalize s.extract j2 e = y at *
      generalize hlb : lowerB y = z at *
      have HNS := hid hns
      have hex : e = j2 + x.size := by omega
      have HEX := hid hex
      clear hb hz h2 h3 he hi1e hlow cE hde hns hej hj2 hex hcv hlb
      have hcv := HCV.out
      by_cases h4 : z = x
      · subst h4
        by_cases h5 : e = n
        · have HF := hid (show closesB s z i = true by rw [HIS.out, decide_eq_true rfl, decide_eq_true (h5.trans HNS.out)]; rfl)
          subst h5
          go_enter Tryz.func97, Tryz.ntmps97
          go_wp2_with fail
          refine (HLOW.out _).mono ?_
          rintro e2 w2 ⟨rfl, hb2⟩
          have HB2 := hid hb2
          clear hb2
          go_wp2_with fail
          go_ret
          exact ⟨ret_bool HF.out.symm, HB2.out⟩
        · have hen : e < n := by omega
          have hen' : (e : Int) < (n : Int) := by omega
          have hnee : ¬ (e : Int) = (n : Int) := by omega
          have hneb : ((e : Int) == (n : Int)) = false := by simpa using hnee
          have c2 := HC.out (by have := HNS.out; omega)
          have HF := hid (show closesB s z i = endB (byt s e) by rw [HIS.out, decide_eq_true rfl, decide_eq_false (fun h => h5 (h.trans HNS.out.symm))]; rfl)
          generalize byt s e = c at *
          clear h5
          go_enter Tryz.func97, Tryz.ntmps97
          go_wp2_with fail
          refine (HLOW.out _).mono ?_
          rintro e2 w2 ⟨rfl, hb2⟩
          have HB2 := hid hb2
          have hs2 := hb2.size
          have c2 := (hb2.cell (p := ⟨b, off + e, none⟩) hbl).trans c2
          clear hb2
          have HB3 := hid (HB2.out.alloc hs2 (.cells #[.int .u8 9, .int .u8 10, .int .u8 12, .int .u8 13, .int .u8 32, .int .u8 47, .int .u8 62] 5 (7, 8)))
          have c3 := (((Below.refl w2.heap.size w2).alloc (Nat.le_refl _) (.cells #[.int .u8 9, .int .u8 10, .int .u8 12, .int .u8 13, .int .u8 32, .int .u8 47, .int .u8 62] 5 (7, 8))).cell (p := ⟨b, off + e, none⟩) (by show b < w2.heap.size; omega)).trans c2
          have kc := Lib.run_convert_bytes_const (P := Tryz.prog) w2 22 5 #[.int .u8 9, .int .u8 10, .int .u8 12, .int .u8 13, .int .u8 32, .int .u8 47, .int .u8 62] 7 7 Tryz.underlying22 Tryz.underlying5
          simp only [List.size_toArray, List.length_cons, List.length_nil, Nat.reduceAdd] at kc
          have HK := hid (contains7_any w2.heap.size c _ (fun k hk => (cell_of_row _ w2.heap.size k _ _ _ (heap_alloc_new w2 (.cells #[.int .u8 9, .int .u8 10, .int .u8 12, .int .u8 13, .int .u8 32, .int .u8 47, .int .u8 62] 5 (7, 8)))).trans (endC_get ⟨k, hk⟩)))
          go_wp2_with fail
          refine HK.out.mono ?_
          rintro e3 w3 ⟨rfl, hw3⟩
          subst hw3
          go_wp2_with fail
          go_ret
          exact ⟨ret_bool HF.out.symm, HB3.out⟩
      · have HF := hid (show closesB s x i = false by rw [HIS.out, decide_eq_false h4]; rfl)
        have k1 := toList_ne h4
        have k2 : (z.toList == x.toList) = false := by simpa using k1
        have k3 : (z.toList != x.toList) = true := by simpa using k1
        clear h4
        go_enter Tryz.func97, Tryz.ntmps97
        go_wp2_with fail
        refine (HLOW.out _).mono ?_
        rintro e2 w2 ⟨rfl, hb2⟩
        have HB2 := hid hb2
        clear hb2
        go_wp2_with fail
        go_ret
        exact ⟨ret_bool HF.out.symm, HB2.out⟩
    · have HF := hid (show closesB s x i = false by rw [HIS.out, decide_eq_false h3]; simp)
      have hne : (byt s i1 != 47) = true := by rw [HI1.out]; simpa using h3
      rw [h2] at c0
      generalize byt s i1 = z at *
      clear hb hz h1 he hi1e h3 h2
      go_enter Tryz.func97, Tryz.ntmps97
      go_wp2_with fail
      go_ret
      exact ⟨ret_bool HF.out.symm, Below.refl _ _⟩
  · have HF := hid (show closesB s x i = false by rw [HIS.out, decide_eq_false h2]; simp)
    have hne : (byt s i != 60) = true := by simpa using h2
    generalize byt s i = z at *
    clear hb hz h1 he hi1e h2
    go_enter Tryz.func97, Tryz.ntmps97
    go_wp2_with fail
    go_ret
    exact ⟨ret_bool HF.out.symm, Below.refl _ _⟩
set_option maxHeartbeats 1000000 in
theorem raw_any (a : Option Addr) (n cap i : Nat) (s x : ByteArray) (w : World) (hb : BA w a n cap s) (hm : n ≤ 1000000) (hi : i ≤ n) (hx0 : 0 < x.size) (hx1 : x.size ≤ 1000000) :
    Calls Tryz.prog 67 #[.slice a n cap, .int .i64 i, .string x] w fun e w' => e = .returned (.int .i64 (rawE s x i)) ∧ Below w.heap.size w w' := by
  have HCL := hid (fun (W : World) (h : Below w.heap.size w W) (j : Nat) (hj : j < n) => closes_any a n cap j s x W (hb.below h (Nat.le_refl _)) hm hj hx0 hx1)
  have HN := hid hb.1
  clear hb
  go_enter Tryz.func67, Tryz.ntmps67
  go_wp2_with fail
  go_loopg [1] (n - i) (fun kx s1 wr => ∃ j : Nat, s1 = .int .i64 j ∧ j ≤ n ∧ n - j ≤ kx ∧ Hid (Below w.heap.size w wr) ∧ Hid (rawE s x i = rawE s x j))
  case atStart => exact ⟨i, rfl, hi, Nat.le_refl _, Below.refl _ _, rfl⟩
  case round =>
    obtain ⟨j, rfl, hj, hg, HB, HE⟩ := hrel
    by_cases hlt : j < n
    · have hlt' : (j : Int) < (n : Int) := by omega
      have HC := hid (HCL.out wr HB.out j hlt)
      cases hc : closesB s x j
      · have HE2 := hid (HE.out.trans (scanTo_step (by have := HN.out; omega) hc))
        rw [hc] at HC
        clear hc
        go_wp2_with fail
        refine HC.out.mono ?_
        rintro e2 w2 ⟨rfl, hb2⟩
        have HB2 := hid (HB.out.trans (hb2.mono HB.out.size))
        clear hb2
        go_wp2_with fail
        go_roundg (n - (j + 1))
        case measure => omega
        case rel => exact ⟨j + 1, by go_num, by omega, Nat.le_refl _, HB2, HE2⟩
      · have HE2 := hid (HE.out.trans (scanTo_stop (by have := HN.out; omega) hc))
        rw [hc] at HC
        clear hc
        go_wp2_with fail
        refine HC.out.mono ?_
        rintro e2 w2 ⟨rfl, hb2⟩
        have HB2 := hid (HB.out.trans (hb2.mono HB.out.size))
        clear hb2
        go_wp2_with fail
        go_ret
        exact ⟨ret_int (by rw [HE2.out]), HB2.out⟩
    · have hlt' : ¬ (j : Int) < (n : Int) := by omega
      obtain rfl : j = n := by omega
      have HE2 := hid (HE.out.trans (scanTo_end (by have := HN.out; omega)))
      clear hlt hg
      go_wp2_with fail
      go_ret
      exact ⟨ret_int (by rw [HE2.out]), HB.out⟩
end Go.Proofs.YtpnbkecchfhimaaGreatDoor

/- out of TkC -/
namespace Go.Proofs.YtpnbkecchfhimaaGreatDoor
open Go.RowKit
open Go.Lib (hid)
set_option linter.unusedVariables false
set_option maxRecDepth 100000

/-- A token's cells. -/
def tkC (t : Tk) : Array Value := #[.int .i64 t.kind, .int .i64 t.fr, .int .i64 t.til, .string t.name, .int .i32 t.r, .bool t.single]
def RetSp (w : World) (e : Ending) (w' : World) (s : ByteArray) (i : Nat) : Prop :=
  ∃ (t : Tk) (fo : Bool), e = .returned (.tuple #[.agg (tkC t), .bool (specB s i), .bool fo]) ∧ (∀ sp, specA s i = some sp → t = spTk i sp ∧ fo = sp.raw) ∧ Below w.heap.size w w'
/-- The cell of the bound of bytes.Index. -/
def Mx (w : World) : Prop := ∃ m : Int, w.cell? ⟨0, 0, none⟩ = some (.int .i64 m)
theorem Mx.below {w w' : World} {B : Nat} (h : Mx w) (hb : Below B w w') (hB : w.heap.size ≤ B) : Mx w' := by
  obtain ⟨m, h⟩ := h
  have := World.block_lt_of_cell? _ _ h
  exact ⟨m, (hb.cell (p := ⟨0, 0, none⟩) (by show _ < B; omega)).trans h⟩
def tk0 : Array Value := #[.int .i64 0, .int .i64 0, .int .i64 0, .string ⟨#[]⟩, .int .i32 0, .bool false]
/-- The token's store. -/
def sSet (w : World) (r : Nat) (k f t : Int) (nm : ByteArray) (z : Int) (sg : Bool) : World :=
  (((((w.setCell ⟨r, 0, none⟩ (.int .i64 k)).setCell ⟨r, 1, none⟩ (.int .i64 f)).setCell ⟨r, 2, none⟩ (.int .i64 t)).setCell ⟨r, 3, none⟩ (.string nm)).setCell ⟨r, 4, none⟩ (.int .i32 z)).setCell ⟨r, 5, none⟩ (.bool sg)
theorem sSet_blk {w : World} {r : Nat} {k f t : Int} {nm : ByteArray} {z : Int} {sg : Bool} (h : Blk w r 29 tk0) : Blk (sSet w r k f t nm z sg) r 29 #[.int .i64 k, .int .i64 f, .int .i64 t, .string nm, .int .i32 z, .bool sg] := by
  have := (((((h.set_ 0 (.int .i64 k)).set_ 1 (.int .i64 f)).set_ 2 (.int .i64 t)).set_ 3 (.string nm)).set_ 4 (.int .i32 z)).set_ 5 (.bool sg)
  unfold sSet
  simpa [tk0] using this
theorem sSet_below {w w0 : World} {B r : Nat} {k f t : Int} {nm : ByteArray} {z : Int} {sg : Bool} (hB : B ≤ r) (h : Below B w0 w) : Below B w0 (sSet w r k f t nm z sg) :=
  ((((((h.setCell (p := ⟨r, 0, none⟩) hB _).setCell (p := ⟨r, 1, none⟩) hB _).setCell (p := ⟨r, 2, none⟩) hB _).setCell (p := ⟨r, 3, none⟩) hB _).setCell (p := ⟨r, 4, none⟩) hB _).setCell (p := ⟨r, 5, none⟩) hB _)
theorem sSet_far {w : World} {r q j : Nat} {k f t : Int} {nm : ByteArray} {z : Int} {sg : Bool} (hne : r ≠ q) : (sSet w r k f t nm z sg).cell? ⟨q, j, none⟩ = w.cell? ⟨q, j, none⟩ := by
  have hs : ∀ (W : World) (k : Nat) (u : Value), (W.setCell ⟨r, k, none⟩ u).cell? ⟨q, j, none⟩ = W.cell? ⟨q, j, none⟩ := fun W k u => World.cell?_setCell_far _ _ _ _ hne
  unfold sSet
  rw [hs, hs, hs, hs, hs, hs]
/-- What the region loads of. -/
def SpS (q : Nat) (kd : Int) (sz : Nat) (nm : ByteArray) (sg cl : Bool) (w : World) : Prop :=
  w.cell? ⟨q, 0, none⟩ = some (.int .i64 kd) ∧ w.cell? ⟨q, 1, none⟩ = some (.int .i64 sz) ∧ w.cell? ⟨q, 2, none⟩ = some (.string nm) ∧ w.cell? ⟨q, 4, none⟩ = some (.bool sg) ∧ w.cell? ⟨q, 5, none⟩ = some (.bool cl)
theorem SpS.set {q : Nat} {kd : Int} {sz : Nat} {nm : ByteArray} {sg cl : Bool} {w : World} (h : SpS q kd sz nm sg cl w) {r : Nat} {k f t : Int} {nm' : ByteArray} {z : Int} {sg' : Bool} (hne : r ≠ q) : SpS q kd sz nm sg cl (sSet w r k f t nm' z sg') := by
  obtain ⟨h0, h1, h2, h4, h5⟩ := h
  exact ⟨(sSet_far hne).trans h0, (sSet_far hne).trans h1, (sSet_far hne).trans h2, (sSet_far hne).trans h4, (sSet_far hne).trans h5⟩
theorem SpS.drew {q : Nat} {kd : Int} {sz : Nat} {nm : ByteArray} {sg cl : Bool} {w : World} (h : SpS q kd sz nm sg cl w) : SpS q kd sz nm sg cl w.drew := h
theorem headV_bd0 (t : ByteArray) : (headV t).2 = false → (headV t).1 = mk0 := by
  unfold headV
  intro h
  split
  · rename_i hc
    rw [if_pos hc] at h
    cases h
  · rename_i hc
    rw [if_neg hc] at h
    split
    · rename_i hk
      rw [if_pos hk] at h
      cases h
    · rename_i hk
      rw [if_neg hk] at h
      split
      · rename_i hm
        rw [if_pos hm] at h
        cases h
      · rename_i hm
        rw [if_neg hm] at h
        split
        · rename_i hl
          rw [if_pos hl] at h
          cases h
        · rfl
theorem readV_bd0 (s : ByteArray) (i : Nat) : 0 ≤ (readV s i).1.kind ∧ (readV s i).1.kind ≤ 3 ∧ (readV s i).1.size ≤ s.size := by
  cases h : (readV s i).2 with
  | true =>
    have := readV_bd s i h
    exact ⟨this.2.2.1, this.2.2.2, by omega⟩
  | false =>
    have : (readV s i).1 = mk0 := by
      unfold readV at h ⊢
      split
      · rfl
      · rename_i hc
        rw [if_neg hc] at h
        exact headV_bd0 _ h
    rw [this]
    exact ⟨by decide, by decide, Nat.zero_le _⟩
theorem retSp_tag {w : World} {s : ByteArray} {i : Nat} {kd : Int} {sz : Nat} {nm : ByteArray} {ats : List (ByteArray × ByteArray)} {sg cl ok fo : Bool} (hsp : specA s i = if ok = true then some (tagSp ⟨kd, sz, nm, ats, sg, cl⟩) else none)
    (hfo : fo = (decide (kd = 0) && cl && !sg && rawsB nm)) {e : Ending} {W : World} (he : e = .returned (.tuple #[.agg #[.int .i64 (2 + kd), .int .i64 i, .int .i64 ((i : Int) + (sz : Int)), .string nm, .int .i32 0, .bool sg], .bool ok, .bool fo])) (hW : Below w.heap.size w W) : RetSp w e W s i := by
  refine ⟨⟨2 + kd, i, i + sz, nm, 0, sg⟩, fo, ?_, fun sp h => ?_, hW⟩
  · rw [he, show specB s i = ok by unfold specB; rw [hsp]; cases ok <;> rfl]
    rfl
  · rw [hsp] at h
    cases ok with
    | false => cases h
    | true =>
      injection h with h
      subst h
      exact ⟨rfl, hfo⟩
set_option maxHeartbeats 8000000 in
theorem special_tag (b off n cap i : Nat) (s : ByteArray) (w : World) (hb : BA w (some ⟨b, off, none⟩) n cap s) (hm : n ≤ 1000000) (hi : i < n) (hmx : Mx w) (h60 : byt s i = 60) :
    Calls Tryz.prog 65 #[.slice (some ⟨b, off, none⟩) n cap, .int .i64 i] w fun e w' => RetSp w e w' s i := by
  obtain ⟨m, hml⟩ := hmx
  have hns := hb.1
  have hcap := hb.2.1
  have hc63 := hb.2.2.1
  obtain ⟨b', off', e0, hbl, hz⟩ := hb.2.2.2 (by omega)
  obtain ⟨rfl, rfl⟩ : b = b' ∧ off = off' := by injection e0 with e0; injection e0 with e1 e2 _; exact ⟨e1, e2⟩
  have c0 := bytes_cell hz (i := i) (by omega)
  rw [h60] at c0
  have hi' : (i : Int) < (n : Int) := by omega
  have hw1 : Below w.heap.size w (w.alloc (.cells tk0 29)) := (Below.refl _ _).alloc (Nat.le_refl _) _
  have hk1 := Blk.new w 29 tk0
  have hrd := fun W (hW : Below w.heap.size w W) => read_any W (some ⟨b, off, none⟩) n cap i m s hns (fun _ => ⟨b, off, rfl, Nat.lt_of_lt_of_le hbl hW.size, Bytes.keepAt hz fun k => World.cell?_of_block (hW.block b hbl)⟩) hcap hc63 (by omega) (by omega) ((hW.cell (p := ⟨0, 0, none⟩) (World.block_lt_of_cell? _ _ hml)).trans hml)
  have HRD := hid hrd
  have hc1 := (hw1.cell (p := ⟨b, off + i, none⟩) hbl).trans c0
  have HSP := hid (show specA s i = if (readV s i).2 = true then some (tagSp (readV s i).1) else none by unfold specA; rw [if_pos h60])
  have hbd := readV_bd s i
  have HNS := hid hns
  clear hb hz hrd e0 h60 hns
  simp only [tk0] at hw1 hk1 hc1
  go_enter Tryz.func65, Tryz.ntmps65
  go_upto_region 1 with fail
  generalize w.alloc (.cells #[.int .i64 0, .int .i64 0, .int .i64 0, .string ⟨#[]⟩, .int .i32 0, .bool false] 29) = w1 at *
  have HW1 := hid hw1
  have HK1 := hid hk1
  have HRD1 := hid (HRD.out w1 hw1)
  clear hw1 hk1 HRD
  obtain ⟨M, hM⟩ : ∃ M, M = (readV s i).1 := ⟨_, rfl⟩
  obtain ⟨ok, hok⟩ : ∃ ok, ok = (readV s i).2 := ⟨_, rfl⟩
  rw [← hM, ← hok] at HRD1 HSP hbd
  obtain ⟨kd, sz, nm, ats, sg, cl⟩ := M
  have HBD := hid hbd
  have HM := hid hM
  have HOK := hid hok
  clear hbd hM hok
  go_wp2_with fail
  refine HRD1.out.mono ?_
  rintro e w2 ⟨v, rfl, hb2, ho2⟩
  simp only [Mk.val]
  have HW2 := hid (HW1.out.trans (hb2.mono HW1.out.size))
  have HK2 := hid (HK1.out.below hb2 HK1.out.lt)
  obtain ⟨VA, VC, rfl⟩ := owns_slice ho2
  clear hb2 ho2
  have hs2 := HW2.out.size
  have HW3 := hid (HW2.out.alloc hs2 (.cells #[.int .i64 kd, .int .i64 sz, .string nm, .slice VA ats.length VC, .bool sg, .bool cl] 110))
  have HK3 := hid (HK2.out.alloc (.cells #[.int .i64 kd, .int .i64 sz, .string nm, .slice VA ats.length VC, .bool sg, .bool cl] 110))
  have hx := Blk.new w2 110 #[.int .i64 kd, .int .i64 sz, .string nm, .slice VA ats.length VC, .bool sg, .bool cl]
  have x0 := hx.cell 0
  have x1 := hx.cell 1
  have x2 := hx.cell 2
  have x4 := hx.cell 4
  have x5 := hx.cell 5
  simp only [List.getElem?_toArray, List.getElem?_cons_zero, List.getElem?_cons_succ] at x0 x1 x2 x4 x5
  have hne : w.heap.size ≠ w2.heap.size := by
    have := HW2.out.size
    have := HK2.out.lt
    omega
  have HNE := hid hne
  have hkb := readV_bd0 s i
  rw [← HM.out] at hkb
  simp only at hkb
  have hsz2 : s.size ≤ 1000000 := by rw [← HNS.out]; exact hm
  have e1 : IntKind.i64.wrap (2 + kd) = 2 + kd := IntWalk.i64_in _ (by omega)
  have e2 : IntKind.i64.wrap ((i : Int) + (sz : Int)) = (i : Int) + (sz : Int) := IntWalk.i64_in _ (by omega)
  clear hx hne hkb hsz2
  go_upto_region 4 with fail
  generalize w2.alloc (.cells #[.int .i64 kd, .int .i64 sz, .string nm, .slice VA ats.length VC, .bool sg, .bool cl] 110) = w3 at *
  have y0 := HK3.out.cell 0
  have y1 := HK3.out.cell 1
  have y2 := HK3.out.cell 2
  have y3 := HK3.out.cell 3
  have y4 := HK3.out.cell 4
  have y5 := HK3.out.cell 5
  have yf := HK3.out.frozen
  simp only [List.getElem?_toArray, List.getElem?_cons_zero, List.getElem?_cons_succ] at y0 y1 y2 y3 y4 y5
  by_cases hk : kd = 0
  · have hkb : (kd == 0) = true := by simpa using hk
    cases cl
    · have HFO := hid (show false = (decide (kd = 0) && false && !sg && rawsB nm) by rw [decide_eq_true hk]; rfl)
      clear hk
      refine wp_region_held_drew (S := fun w' : World => w'.cell? ⟨w2.heap.size, 0, none⟩ = some (.int .i64 kd) ∧ w'.cell? ⟨w2.heap.size, 1, none⟩ = some (.int .i64 sz) ∧ w'.cell? ⟨w2.heap.size, 2, none⟩ = some (.string nm) ∧ w'.cell? ⟨w2.heap.size, 4, none⟩ = some (.bool sg) ∧ w'.cell? ⟨w2.heap.size, 5, none⟩ = some (.bool false)) (by kernel_rfl) ⟨x0, x1, x2, x4, x5⟩ (fun hHeld => ?_)
      refine wpAnyH_take (i := 0) (v := ?hv1) rfl (by kernel_rfl) (by kernel_rfl) (by kernel_rfl) (fun _ _ _ h => h) (Or.inl ⟨by rfl, ?hy1⟩) (by assumption) ?hr1
      case hy1 => (intro w hSw; (try dsimp only at hSw); go_simp; try with_reducible rfl)
      (try simp only [Act.put, List.getElem_toArray, List.getElem_cons_zero, List.setIfInBounds_toArray, List.set_cons_zero, List.set_cons_succ])
      refine wpAnyH_take (i := 1) (v := ?hv2) rfl (by kernel_rfl) (by kernel_rfl) (by kernel_rfl) (fun _ _ _ h => h) (Or.inl ⟨by rfl, ?hy2⟩) (by assumption) ?hr2
      case hy2 => (intro w hSw; (try dsimp only at hSw); go_simp; try with_reducible rfl)
      (try simp only [Act.put, List.getElem_toArray, List.getElem_cons_zero, List.getElem_cons_succ, List.setIfInBounds_toArray, List.set_cons_zero, List.set_cons_succ])
      try simp only [e1]
      refine wpAnyH_take (i := 2) (v := ?hv3) rfl (by kernel_rfl) (by kernel_rfl) (by kernel_rfl) (fun _ _ _ h => h) (Or.inl ⟨by rfl, ?hy3⟩) (by assumption) ?hr3
      case hy3 => (intro w hSw; (try dsimp only at hSw); go_simp; try with_reducible rfl)
      (try simp only [Act.put, List.getElem_toArray, List.getElem_cons_zero, List.getElem_cons_succ, List.setIfInBounds_toArray, List.set_cons_zero, List.set_cons_succ])
      refine wpAnyH_take (i := 3) (v := ?hv4) rfl (by kernel_rfl) (by kernel_rfl) (by kernel_rfl) (fun _ _ _ h => h) (Or.inl ⟨by rfl, ?hy4⟩) (by assumption) ?hr4
      case hy4 => (intro w hSw; (try dsimp only at hSw); go_simp; try with_reducible rfl)
      (try simp only [Act.put, List.getElem_toArray, List.getElem_cons_zero, List.getElem_cons_succ, List.setIfInBounds_toArray, List.set_cons_zero, List.set_cons_succ])
      refine wpAnyH_take (i := 4) (v := ?hv5) rfl (by kernel_rfl) (by kernel_rfl) (by kernel_rfl) (fun _ _ _ h => h) (Or.inl ⟨by rfl, ?hy5⟩) (by assumption) ?hr5
      case hy5 => (intro w hSw; (try dsimp only at hSw); go_simp; try with_reducible rfl)
      (try simp only [Act.put, List.getElem_toArray, List.getElem_cons_zero, List.getElem_cons_succ, List.setIfInBounds_toArray, List.set_cons_zero, List.set_cons_succ])
      refine wpAnyH_take (i := 5) (v := ?hv6) rfl (by kernel_rfl) (by kernel_rfl) (by kernel_rfl) (fun _ _ _ h => h) (Or.inl ⟨by rfl, ?hy6⟩) (by assumption) ?hr6
      case hy6 => (intro w hSw; (try dsimp only at hSw); go_simp; try with_reducible rfl)
      (try simp only [Act.put, List.getElem_toArray, List.getElem_cons_zero, List.getElem_cons_succ, List.setIfInBounds_toArray, List.set_cons_zero, List.set_cons_succ])
      refine wpAnyH_take (i := 6) (v := ?hv7) rfl (by kernel_rfl) (by kernel_rfl) (by kernel_rfl) (fun _ _ _ h => h) (Or.inl ⟨by rfl, ?hy7⟩) (by assumption) ?hr7
      case hy7 => (intro w hSw; (try dsimp only at hSw); go_simp; try with_reducible rfl)
      (try simp only [Act.put, List.getElem_toArray, List.getElem_cons_zero, List.getElem_cons_succ, List.setIfInBounds_toArray, List.set_cons_zero, List.set_cons_succ])
      try simp only [e2]
      refine wpAnyH_take (i := 7) (v := ?hv8) rfl (by kernel_rfl) (by kernel_rfl) (by kernel_rfl) (fun _ _ _ h => h) (Or.inl ⟨by rfl, ?hy8⟩) (by assumption) ?hr8
      case hy8 => (intro w hSw; (try dsimp only at hSw); go_simp; try with_reducible rfl)
      (try simp only [Act.put, List.getElem_toArray, List.getElem_cons_zero, List.getElem_cons_succ, List.setIfInBounds_toArray, List.set_cons_zero, List.set_cons_succ])
      refine wpAnyH_take (i := 8) (v := ?hv9) rfl (by kernel_rfl) (by kernel_rfl) (by kernel_rfl) (fun _ _ _ h => h) (Or.inl ⟨by rfl, ?hy9⟩) (by assumption) ?hr9
      case hy9 => (intro w hSw; (try dsimp only at hSw); go_simp; try with_reducible rfl)
      (try simp only [Act.put, List.getElem_toArray, List.getElem_cons_zero, List.getElem_cons_succ, List.setIfInBounds_toArray, List.set_cons_zero, List.set_cons_succ])
      refine wpAnyH_take (i := 9) (v := ?hv10) rfl (by kernel_rfl) (by kernel_rfl) (by kernel_rfl) (fun _ _ _ h => h) (Or.inl ⟨by rfl, ?hy10⟩) (by assumption) ?hr10
      case hy10 => (intro w hSw; (try dsimp only at hSw); go_simp; try with_reducible rfl)
      (try simp only [Act.put, List.getElem_toArray, List.getElem_cons_zero, List.getElem_cons_succ, List.setIfInBounds_toArray, List.set_cons_zero, List.set_cons_succ])
      refine wpAnyH_take (i := 10) (v := ?hv11) rfl (by kernel_rfl) (by kernel_rfl) (by kernel_rfl) (fun _ _ _ h => h) (Or.inl ⟨by rfl, ?hy11⟩) (by assumption) ?hr11
      case hy11 => (intro w hSw; (try dsimp only at hSw); go_simp; try with_reducible rfl)
      (try simp only [Act.put, List.getElem_toArray, List.getElem_cons_zero, List.getElem_cons_succ, List.setIfInBounds_toArray, List.set_cons_zero, List.set_cons_succ])
      refine wpAnyH_take (i := 11) (v := ?hv12) rfl (by kernel_rfl) (by kernel_rfl) (by kernel_rfl) (fun _ _ _ h => h) (Or.inl ⟨by rfl, ?hy12⟩) (by assumption) ?hr12
      case hy12 => (intro w hSw; (try dsimp only at hSw); go_simp; try with_reducible rfl)
      (try simp only [Act.put, List.getElem_toArray, List.getElem_cons_zero, List.getElem_cons_succ, List.setIfInBounds_toArray, List.set_cons_zero, List.set_cons_succ])
      refine wpAnyH_take (i := 12) (v := ?hv13) rfl (by kernel_rfl) (by kernel_rfl) (by kernel_rfl) (fun _ _ _ h => h) (Or.inl ⟨by rfl, ?hy13⟩) (by assumption) ?hr13
      case hy13 => (intro w hSw; (try dsimp only at hSw); go_simp; try with_reducible rfl)
      (try simp only [Act.put, List.getElem_toArray, List.getElem_cons_zero, List.getElem_cons_succ, List.setIfInBounds_toArray, List.set_cons_zero, List.set_cons_succ])
      refine wpAnyH_take (i := 13) (v := ?hv14) rfl (by kernel_rfl) (by kernel_rfl) (by kernel_rfl) (fun _ _ _ h => h) (Or.inl ⟨by rfl, ?hy14⟩) (by assumption) ?hr14
      case hy14 => (intro w hSw; (try dsimp only at hSw); go_simp; try with_reducible rfl)
      (try simp only [Act.put, List.getElem_toArray, List.getElem_cons_zero, List.getElem_cons_succ, List.setIfInBounds_toArray, List.set_cons_zero, List.set_cons_succ])
      refine wpAnyH_take (i := 14) (v := ?hv15) rfl (by kernel_rfl) (by kernel_rfl) (by kernel_rfl) (fun _ _ _ h => h) (Or.inl ⟨by rfl, ?hy15⟩) (by assumption) ?hr15
      case hy15 => (intro w hSw; (try dsimp only at hSw); go_simp; try with_reducible rfl)
      (try simp only [Act.put, List.getElem_toArray, List.getElem_cons_zero, List.getElem_cons_succ, List.setIfInBounds_toArray, List.set_cons_zero, List.set_cons_succ])
      refine wpAnyH_take (i := 15) (v := ?hv16) rfl (by kernel_rfl) (by kernel_rfl) (by kernel_rfl) (fun _ _ _ h => h) (Or.inl ⟨by rfl, ?hy16⟩) (by assumption) ?hr16
      case hy16 => (intro w hSw; (try dsimp only at hSw); go_simp; try with_reducible rfl)
      (try simp only [Act.put, List.getElem_toArray, List.getElem_cons_zero, List.getElem_cons_succ, List.setIfInBounds_toArray, List.set_cons_zero, List.set_cons_succ])
      try simp only [hkb]
      refine wpAnyH_take (i := 16) (v := ?hv17) rfl (by kernel_rfl) (by kernel_rfl) (by kernel_rfl) (fun _ _ _ h => h) (Or.inl ⟨by rfl, ?hy17⟩) (by assumption) ?hr17
      case hy17 => (intro w hSw; (try dsimp only at hSw); go_simp; try with_reducible rfl)
      (try simp only [Act.put, List.getElem_toArray, List.getElem_cons_zero, List.getElem_cons_succ, List.setIfInBounds_toArray, List.set_cons_zero, List.set_cons_succ])
      refine wpAnyH_take (i := 17) (v := ?hv18) rfl (by kernel_rfl) (by kernel_rfl) (by kernel_rfl) (fun _ _ _ h => h) (Or.inl ⟨by rfl, ?hy18⟩) (by assumption) ?hr18
      case hy18 => (intro w hSw; (try dsimp only at hSw); go_simp; try with_reducible rfl)
      (try simp only [Act.put, List.getElem_toArray, List.getElem_cons_zero, List.getElem_cons_succ, List.setIfInBounds_toArray, List.set_cons_zero, List.set_cons_succ])
      refine wpAnyH_take (i := 18) (v := ?hv19) rfl (by kernel_rfl) (by kernel_rfl) (by kernel_rfl) (fun _ _ _ h => h) (Or.inl ⟨by rfl, ?hy19⟩) (by assumption) ?hr19
      case hy19 => (intro w hSw; (try dsimp only at hSw); go_simp; try with_reducible rfl)
      (try simp only [Act.put, List.getElem_toArray, List.getElem_cons_zero, List.getElem_cons_succ, List.setIfInBounds_toArray, List.set_cons_zero, List.set_cons_succ])
      refine wpAnyH_take (i := 19) (v := ?hv20) rfl (by kernel_rfl) (by kernel_rfl) (by kernel_rfl) (fun _ _ _ h => h) (Or.inl ⟨by rfl, ?hy20⟩) (by assumption) ?hr20
      case hy20 => (intro w hSw; (try dsimp only at hSw); go_simp; try with_reducible rfl)
      (try simp only [Act.put, List.getElem_toArray, List.getElem_cons_zero, List.getElem_cons_succ, List.setIfInBounds_toArray, List.set_cons_zero, List.set_cons_succ])
      refine wpAnyH_take (i := 20) (v := ?hv21) rfl (by kernel_rfl) (by kernel_rfl) (by kernel_rfl) (fun _ _ _ h => h) (Or.inl ⟨by rfl, ?hy21⟩) (by assumption) ?hr21
      case hy21 => (intro w hSw; (try dsimp only at hSw); go_simp; try with_reducible rfl)
      (try simp only [Act.put, List.getElem_toArray, List.getElem_cons_zero, List.getElem_cons_succ, List.setIfInBounds_toArray, List.set_cons_zero, List.set_cons_succ])
      refine wpAnyH_take (i := 21) (v := ?hv22) rfl (by kernel_rfl) (by kernel_rfl) (by kernel_rfl) (fun _ _ _ h => h) (Or.inl ⟨by rfl, ?hy22⟩) (by assumption) ?hr22
      case hy22 => (intro w hSw; (try dsimp only at hSw); go_simp; try with_reducible rfl)
      (try simp only [Act.put, List.getElem_toArray, List.getElem_cons_zero, List.getElem_cons_succ, List.setIfInBounds_toArray, List.set_cons_zero, List.set_cons_succ])
      refine wpAnyH_take (i := 22) (v := undef) rfl (by kernel_rfl) (by kernel_rfl) (by kernel_rfl) (fun _ _ _ h => h) (Or.inr ⟨by rfl, rfl⟩) (by assumption) ?_
      (try simp only [Act.put, List.getElem_toArray, List.getElem_cons_zero, List.getElem_cons_succ, List.setIfInBounds_toArray, List.set_cons_zero, List.set_cons_succ])
      refine wpAnyH_take (i := 23) (v := undef) rfl (by kernel_rfl) (by kernel_rfl) (by kernel_rfl) (fun _ _ _ h => h) (Or.inr ⟨by rfl, rfl⟩) (by assumption) ?_
      (try simp only [Act.put, List.getElem_toArray, List.getElem_cons_zero, List.getElem_cons_succ, List.setIfInBounds_toArray, List.set_cons_zero, List.set_cons_succ])
      refine wpAnyH_take (i := 24) (v := undef) rfl (by kernel_rfl) (by kernel_rfl) (by kernel_rfl) (fun _ _ _ h => h) (Or.inr ⟨by rfl, rfl⟩) (by assumption) ?_
      (try simp only [Act.put, List.getElem_toArray, List.getElem_cons_zero, List.getElem_cons_succ, List.setIfInBounds_toArray, List.set_cons_zero, List.set_cons_succ])
      refine wpAnyH_take (i := 25) (v := ?hv23) rfl (by kernel_rfl) (by kernel_rfl) (by kernel_rfl) (fun _ _ _ h => h) (Or.inl ⟨by rfl, ?hy23⟩) (by assumption) ?hr23
      case hy23 => (intro w hSw; (try dsimp only at hSw); go_simp; try with_reducible rfl)
      (try simp only [Act.put, List.getElem_toArray, List.getElem_cons_zero, List.getElem_cons_succ, List.setIfInBounds_toArray, List.set_cons_zero, List.set_cons_succ])
      refine wpAnyH_take (i := 26) (v := ?hv24) rfl (by kernel_rfl) (by kernel_rfl) (by kernel_rfl) (fun _ _ _ h => h) (Or.inl ⟨by rfl, ?hy24⟩) (by assumption) ?hr24
      case hy24 => (intro w hSw; (try dsimp only at hSw); go_simp; try with_reducible rfl)
      (try simp only [Act.put, List.getElem_toArray, List.getElem_cons_zero, List.getElem_cons_succ, List.setIfInBounds_toArray, List.set_cons_zero, List.set_cons_succ])
      refine wpAnyH_take (i := 27) (v := undef) rfl (by kernel_rfl) (by kernel_rfl) (by kernel_rfl) (fun _ _ _ h => h) (Or.inr ⟨by rfl, rfl⟩) (by assumption) ?_
      (try simp only [Act.put, List.getElem_toArray, List.getElem_cons_zero, List.getElem_cons_succ, List.setIfInBounds_toArray, List.set_cons_zero, List.set_cons_succ])
      refine wpAnyH_take (i := 28) (v := undef) rfl (by kernel_rfl) (by kernel_rfl) (by kernel_rfl) (fun _ _ _ h => h) (Or.inr ⟨by rfl, rfl⟩) (by assumption) ?_
      (try simp only [Act.put, List.getElem_toArray, List.getElem_cons_zero, List.getElem_cons_succ, List.setIfInBounds_toArray, List.set_cons_zero, List.set_cons_succ])
      refine wpAnyH_take (i := 29) (v := undef) rfl (by kernel_rfl) (by kernel_rfl) (by kernel_rfl) (fun _ _ _ h => h) (Or.inr ⟨by rfl, rfl⟩) (by assumption) ?_
      (try simp only [Act.put, List.getElem_toArray, List.getElem_cons_zero, List.getElem_cons_succ, List.setIfInBounds_toArray, List.set_cons_zero, List.set_cons_succ])
      refine wpAnyH_take (i := 30) (v := ?hv25) rfl (by kernel_rfl) (by kernel_rfl) (by kernel_rfl) (fun _ _ _ h => h) (Or.inl ⟨by rfl, ?hy25⟩) (by assumption) ?hr25
      case hy25 => (intro w hSw; (try dsimp only at hSw); go_simp; try with_reducible rfl)
      (try simp only [Act.put, List.getElem_toArray, List.getElem_cons_zero, List.getElem_cons_succ, List.setIfInBounds_toArray, List.set_cons_zero, List.set_cons_succ])
      refine wpAnyH_ready (rs := [31]) (by kernel_rfl) (by decide) (AllReadyH.cons rfl (fun K hK => ?_) AllReadyH.nil)
      go_simp
      refine hK.out _ (sSet w3 w.heap.size (2 + kd) i ((i : Int) + (sz : Int)) nm 0 sg).drew (SpS.drew (SpS.set ⟨x0, x1, x2, x4, x5⟩ HNE.out)) (fun hHeld2 => ?_)
      clear hK K
      try simp only [List.setIfInBounds_toArray, List.set_cons_zero, List.set_cons_succ, Act.put]
      refine wpAnyH_take (i := 32) (v := ?hv26) rfl (by kernel_rfl) (by kernel_rfl) (by kernel_rfl) (fun _ _ _ h => h) (Or.inl ⟨by rfl, ?hy26⟩) (by assumption) ?hr26
      case hy26 => (intro w hSw; (try dsimp only at hSw); go_simp; try with_reducible rfl)
      (try simp only [Act.put, List.getElem_toArray, List.getElem_cons_zero, List.getElem_cons_succ, List.setIfInBounds_toArray, List.set_cons_zero, List.set_cons_succ])
      refine wpAnyH_take (i := 33) (v := ?hv27) rfl (by kernel_rfl) (by kernel_rfl) (by kernel_rfl) (fun _ _ _ h => h) (Or.inl ⟨by rfl, ?hy27⟩) (by assumption) ?hr27
      case hy27 => (intro w hSw; (try dsimp only at hSw); go_simp; try with_reducible rfl)
      (try simp only [Act.put, List.getElem_toArray, List.getElem_cons_zero, List.getElem_cons_succ, List.setIfInBounds_toArray, List.set_cons_zero, List.set_cons_succ])
      refine wpAnyH_done (by kernel_rfl) ?_ _
      have hbk := Blk.drew (sSet_blk (k := 2 + kd) (f := i) (t := (i : Int) + (sz : Int)) (nm := nm) (z := 0) (sg := sg) HK3.out)
      have hbl2 := Below.drew (sSet_below (k := 2 + kd) (f := i) (t := (i : Int) + (sz : Int)) (nm := nm) (z := 0) (sg := sg) (Nat.le_refl _) HW3.out)
      generalize (sSet w3 w.heap.size (2 + kd) i ((i : Int) + (sz : Int)) nm 0 sg).drew = W at *
      have HBK := hid hbk
      have HBL2 := hid hbl2
      clear hHeld hHeld2 hbk hbl2 x0 x1 x2 x4 x5 y0 y1 y2 y3 y4 y5 yf
      go_wp2_with fail
      exact bodyPost_ret (results_row_tmp2 rfl _ _ w.heap.size _ _ _ _ rfl HBK.out Tryz.underlying29 rfl (by kernel_rfl)) rfl (retSp_tag HSP.out HFO.out rfl HBL2.out)
    · cases sg
      · obtain ⟨rb, hrb⟩ : ∃ rb, rb = rawsB nm := ⟨_, rfl⟩
        have hcall := fun W => raws_any nm W
        rw [← hrb] at hcall
        have HFO := hid (show rb = (decide (kd = 0) && true && !false && rawsB nm) by rw [decide_eq_true hk, hrb]; simp)
        have HCALL := hid hcall
        clear hcall hrb hk
        refine wp_region_held_drew (S := fun w' : World => w'.cell? ⟨w2.heap.size, 0, none⟩ = some (.int .i64 kd) ∧ w'.cell? ⟨w2.heap.size, 1, none⟩ = some (.int .i64 sz) ∧ w'.cell? ⟨w2.heap.size, 2, none⟩ = some (.string nm) ∧ w'.cell? ⟨w2.heap.size, 4, none⟩ = some (.bool false) ∧ w'.cell? ⟨w2.heap.size, 5, none⟩ = some (.bool true)) (by kernel_rfl) ⟨x0, x1, x2, x4, x5⟩ (fun hHeld => ?_)
        refine wpAnyH_take (i := 0) (v := ?hv28) rfl (by kernel_rfl) (by kernel_rfl) (by kernel_rfl) (fun _ _ _ h => h) (Or.inl ⟨by rfl, ?hy28⟩) (by assumption) ?hr28
        case hy28 => (intro w hSw; (try dsimp only at hSw); go_simp; try with_reducible rfl)
        (try simp only [Act.put, List.getElem_toArray, List.getElem_cons_zero, List.setIfInBounds_toArray, List.set_cons_zero, List.set_cons_succ])
        refine wpAnyH_take (i := 1) (v := ?hv29) rfl (by kernel_rfl) (by kernel_rfl) (by kernel_rfl) (fun _ _ _ h => h) (Or.inl ⟨by rfl, ?hy29⟩) (by assumption) ?hr29
        case hy29 => (intro w hSw; (try dsimp only at hSw); go_simp; try with_reducible rfl)
        (try simp only [Act.put, List.getElem_toArray, List.getElem_cons_zero, List.getElem_cons_succ, List.setIfInBounds_toArray, List.set_cons_zero, List.set_cons_succ])
        try simp only [e1]
        refine wpAnyH_take (i := 2) (v := ?hv30) rfl (by kernel_rfl) (by kernel_rfl) (by kernel_rfl) (fun _ _ _ h => h) (Or.inl ⟨by rfl, ?hy30⟩) (by assumption) ?hr30
        case hy30 => (intro w hSw; (try dsimp only at hSw); go_simp; try with_reducible rfl)
        (try simp only [Act.put, List.getElem_toArray, List.getElem_cons_zero, List.getElem_cons_succ, List.setIfInBounds_toArray, List.set_cons_zero, List.set_cons_succ])
        refine wpAnyH_take (i := 3) (v := ?hv31) rfl (by kernel_rfl) (by kernel_rfl) (by kernel_rfl) (fun _ _ _ h => h) (Or.inl ⟨by rfl, ?hy31⟩) (by assumption) ?hr31
        case hy31 => (intro w hSw; (try dsimp only at hSw); go_simp; try with_reducible rfl)
        (try simp only [Act.put, List.getElem_toArray, List.getElem_cons_zero, List.getElem_cons_succ, List.setIfInBounds_toArray, List.set_cons_zero, List.set_cons_succ])
        refine wpAnyH_take (i := 4) (v := ?hv32) rfl (by kernel_rfl) (by kernel_rfl) (by kernel_rfl) (fun _ _ _ h => h) (Or.inl ⟨by rfl, ?hy32⟩) (by assumption) ?hr32
        case hy32 => (intro w hSw; (try dsimp only at hSw); go_simp; try with_reducible rfl)
        (try simp only [Act.put, List.getElem_toArray, List.getElem_cons_zero, List.getElem_cons_succ, List.setIfInBounds_toArray, List.set_cons_zero, List.set_cons_succ])
        refine wpAnyH_take (i := 5) (v := ?hv33) rfl (by kernel_rfl) (by kernel_rfl) (by kernel_rfl) (fun _ _ _ h => h) (Or.inl ⟨by rfl, ?hy33⟩) (by assumption) ?hr33
        case hy33 => (intro w hSw; (try dsimp only at hSw); go_simp; try with_reducible rfl)
        (try simp only [Act.put, List.getElem_toArray, List.getElem_cons_zero, List.getElem_cons_succ, List.setIfInBounds_toArray, List.set_cons_zero, List.set_cons_succ])
        refine wpAnyH_take (i := 6) (v := ?hv34) rfl (by kernel_rfl) (by kernel_rfl) (by kernel_rfl) (fun _ _ _ h => h) (Or.inl ⟨by rfl, ?hy34⟩) (by assumption) ?hr34
        case hy34 => (intro w hSw; (try dsimp only at hSw); go_simp; try with_reducible rfl)
        (try simp only [Act.put, List.getElem_toArray, List.getElem_cons_zero, List.getElem_cons_succ, List.setIfInBounds_toArray, List.set_cons_zero, List.set_cons_succ])
        try simp only [e2]
        refine wpAnyH_take (i := 7) (v := ?hv35) rfl (by kernel_rfl) (by kernel_rfl) (by kernel_rfl) (fun _ _ _ h => h) (Or.inl ⟨by rfl, ?hy35⟩) (by assumption) ?hr35
        case hy35 => (intro w hSw; (try dsimp only at hSw); go_simp; try with_reducible rfl)
        (try simp only [Act.put, List.getElem_toArray, List.getElem_cons_zero, List.getElem_cons_succ, List.setIfInBounds_toArray, List.set_cons_zero, List.set_cons_succ])
        refine wpAnyH_take (i := 8) (v := ?hv36) rfl (by kernel_rfl) (by kernel_rfl) (by kernel_rfl) (fun _ _ _ h => h) (Or.inl ⟨by rfl, ?hy36⟩) (by assumption) ?hr36
        case hy36 => (intro w hSw; (try dsimp only at hSw); go_simp; try with_reducible rfl)
        (try simp only [Act.put, List.getElem_toArray, List.getElem_cons_zero, List.getElem_cons_succ, List.setIfInBounds_toArray, List.set_cons_zero, List.set_cons_succ])
        refine wpAnyH_take (i := 9) (v := ?hv37) rfl (by kernel_rfl) (by kernel_rfl) (by kernel_rfl) (fun _ _ _ h => h) (Or.inl ⟨by rfl, ?hy37⟩) (by assumption) ?hr37
        case hy37 => (intro w hSw; (try dsimp only at hSw); go_simp; try with_reducible rfl)
        (try simp only [Act.put, List.getElem_toArray, List.getElem_cons_zero, List.getElem_cons_succ, List.setIfInBounds_toArray, List.set_cons_zero, List.set_cons_succ])
        refine wpAnyH_take (i := 10) (v := ?hv38) rfl (by kernel_rfl) (by kernel_rfl) (by kernel_rfl) (fun _ _ _ h => h) (Or.inl ⟨by rfl, ?hy38⟩) (by assumption) ?hr38
        case hy38 => (intro w hSw; (try dsimp only at hSw); go_simp; try with_reducible rfl)
        (try simp only [Act.put, List.getElem_toArray, List.getElem_cons_zero, List.getElem_cons_succ, List.setIfInBounds_toArray, List.set_cons_zero, List.set_cons_succ])
        refine wpAnyH_take (i := 11) (v := ?hv39) rfl (by kernel_rfl) (by kernel_rfl) (by kernel_rfl) (fun _ _ _ h => h) (Or.inl ⟨by rfl, ?hy39⟩) (by assumption) ?hr39
        case hy39 => (intro w hSw; (try dsimp only at hSw); go_simp; try with_reducible rfl)
        (try simp only [Act.put, List.getElem_toArray, List.getElem_cons_zero, List.getElem_cons_succ, List.setIfInBounds_toArray, List.set_cons_zero, List.set_cons_succ])
        refine wpAnyH_take (i := 12) (v := ?hv40) rfl (by kernel_rfl) (by kernel_rfl) (by kernel_rfl) (fun _ _ _ h => h) (Or.inl ⟨by rfl, ?hy40⟩) (by assumption) ?hr40
        case hy40 => (intro w hSw; (try dsimp only at hSw); go_simp; try with_reducible rfl)
        (try simp only [Act.put, List.getElem_toArray, List.getElem_cons_zero, List.getElem_cons_succ, List.setIfInBounds_toArray, List.set_cons_zero, List.set_cons_succ])
        refine wpAnyH_take (i := 13) (v := ?hv41) rfl (by kernel_rfl) (by kernel_rfl) (by kernel_rfl) (fun _ _ _ h => h) (Or.inl ⟨by rfl, ?hy41⟩) (by assumption) ?hr41
        case hy41 => (intro w hSw; (try dsimp only at hSw); go_simp; try with_reducible rfl)
        (try simp only [Act.put, List.getElem_toArray, List.getElem_cons_zero, List.getElem_cons_succ, List.setIfInBounds_toArray, List.set_cons_zero, List.set_cons_succ])
        refine wpAnyH_take (i := 14) (v := ?hv42) rfl (by kernel_rfl) (by kernel_rfl) (by kernel_rfl) (fun _ _ _ h => h) (Or.inl ⟨by rfl, ?hy42⟩) (by assumption) ?hr42
        case hy42 => (intro w hSw; (try dsimp only at hSw); go_simp; try with_reducible rfl)
        (try simp only [Act.put, List.getElem_toArray, List.getElem_cons_zero, List.getElem_cons_succ, List.setIfInBounds_toArray, List.set_cons_zero, List.set_cons_succ])
        refine wpAnyH_take (i := 15) (v := ?hv43) rfl (by kernel_rfl) (by kernel_rfl) (by kernel_rfl) (fun _ _ _ h => h) (Or.inl ⟨by rfl, ?hy43⟩) (by assumption) ?hr43
        case hy43 => (intro w hSw; (try dsimp only at hSw); go_simp; try with_reducible rfl)
        (try simp only [Act.put, List.getElem_toArray, List.getElem_cons_zero, List.getElem_cons_succ, List.setIfInBounds_toArray, List.set_cons_zero, List.set_cons_succ])
        try simp only [hkb]
        refine wpAnyH_take (i := 16) (v := ?hv44) rfl (by kernel_rfl) (by kernel_rfl) (by kernel_rfl) (fun _ _ _ h => h) (Or.inl ⟨by rfl, ?hy44⟩) (by assumption) ?hr44
        case hy44 => (intro w hSw; (try dsimp only at hSw); go_simp; try with_reducible rfl)
        (try simp only [Act.put, List.getElem_toArray, List.getElem_cons_zero, List.getElem_cons_succ, List.setIfInBounds_toArray, List.set_cons_zero, List.set_cons_succ])
        refine wpAnyH_take (i := 17) (v := ?hv45) rfl (by kernel_rfl) (by kernel_rfl) (by kernel_rfl) (fun _ _ _ h => h) (Or.inl ⟨by rfl, ?hy45⟩) (by assumption) ?hr45
        case hy45 => (intro w hSw; (try dsimp only at hSw); go_simp; try with_reducible rfl)
        (try simp only [Act.put, List.getElem_toArray, List.getElem_cons_zero, List.getElem_cons_succ, List.setIfInBounds_toArray, List.set_cons_zero, List.set_cons_succ])
        refine wpAnyH_take (i := 18) (v := ?hv46) rfl (by kernel_rfl) (by kernel_rfl) (by kernel_rfl) (fun _ _ _ h => h) (Or.inl ⟨by rfl, ?hy46⟩) (by assumption) ?hr46
        case hy46 => (intro w hSw; (try dsimp only at hSw); go_simp; try with_reducible rfl)
        (try simp only [Act.put, List.getElem_toArray, List.getElem_cons_zero, List.getElem_cons_succ, List.setIfInBounds_toArray, List.set_cons_zero, List.set_cons_succ])
        refine wpAnyH_take (i := 19) (v := ?hv47) rfl (by kernel_rfl) (by kernel_rfl) (by kernel_rfl) (fun _ _ _ h => h) (Or.inl ⟨by rfl, ?hy47⟩) (by assumption) ?hr47
        case hy47 => (intro w hSw; (try dsimp only at hSw); go_simp; try with_reducible rfl)
        (try simp only [Act.put, List.getElem_toArray, List.getElem_cons_zero, List.getElem_cons_succ, List.setIfInBounds_toArray, List.set_cons_zero, List.set_cons_succ])
        refine wpAnyH_take (i := 20) (v := ?hv48) rfl (by kernel_rfl) (by kernel_rfl) (by kernel_rfl) (fun _ _ _ h => h) (Or.inl ⟨by rfl, ?hy48⟩) (by assumption) ?hr48
        case hy48 => (intro w hSw; (try dsimp only at hSw); go_simp; try with_reducible rfl)
        (try simp only [Act.put, List.getElem_toArray, List.getElem_cons_zero, List.getElem_cons_succ, List.setIfInBounds_toArray, List.set_cons_zero, List.set_cons_succ])
        refine wpAnyH_take (i := 21) (v := ?hv49) rfl (by kernel_rfl) (by kernel_rfl) (by kernel_rfl) (fun _ _ _ h => h) (Or.inl ⟨by rfl, ?hy49⟩) (by assumption) ?hr49
        case hy49 => (intro w hSw; (try dsimp only at hSw); go_simp; try with_reducible rfl)
        (try simp only [Act.put, List.getElem_toArray, List.getElem_cons_zero, List.getElem_cons_succ, List.setIfInBounds_toArray, List.set_cons_zero, List.set_cons_succ])
        refine wpAnyH_take (i := 22) (v := ?hv50) rfl (by kernel_rfl) (by kernel_rfl) (by kernel_rfl) (fun _ _ _ h => h) (Or.inl ⟨by rfl, ?hy50⟩) (by assumption) ?hr50
        case hy50 => (intro w hSw; (try dsimp only at hSw); go_simp; try with_reducible rfl)
        (try simp only [Act.put, List.getElem_toArray, List.getElem_cons_zero, List.getElem_cons_succ, List.setIfInBounds_toArray, List.set_cons_zero, List.set_cons_succ])
        refine wpAnyH_take (i := 23) (v := ?hv51) rfl (by kernel_rfl) (by kernel_rfl) (by kernel_rfl) (fun _ _ _ h => h) (Or.inl ⟨by rfl, ?hy51⟩) (by assumption) ?hr51
        case hy51 => (intro w hSw; (try dsimp only at hSw); go_simp; try with_reducible rfl)
        (try simp only [Act.put, List.getElem_toArray, List.getElem_cons_zero, List.getElem_cons_succ, List.setIfInBounds_toArray, List.set_cons_zero, List.set_cons_succ])
        refine wpAnyH_take (i := 24) (v := ?hv52) rfl (by kernel_rfl) (by kernel_rfl) (by kernel_rfl) (fun _ _ _ h => h) (Or.inl ⟨by rfl, ?hy52⟩) (by assumption) ?hr52
        case hy52 => (intro w hSw; (try dsimp only at hSw); go_simp; try with_reducible rfl)
        (try simp only [Act.put, List.getElem_toArray, List.getElem_cons_zero, List.getElem_cons_succ, List.setIfInBounds_toArray, List.set_cons_zero, List.set_cons_succ])
        refine wpAnyH_take (i := 25) (v := ?hv53) rfl (by kernel_rfl) (by kernel_rfl) (by kernel_rfl) (fun _ _ _ h => h) (Or.inl ⟨by rfl, ?hy53⟩) (by assumption) ?hr53
        case hy53 => (intro w hSw; (try dsimp only at hSw); go_simp; try with_reducible rfl)
        (try simp only [Act.put, List.getElem_toArray, List.getElem_cons_zero, List.getElem_cons_succ, List.setIfInBounds_toArray, List.set_cons_zero, List.set_cons_succ])
        refine wpAnyH_take (i := 26) (v := ?hv54) rfl (by kernel_rfl) (by kernel_rfl) (by kernel_rfl) (fun _ _ _ h => h) (Or.inl ⟨by rfl, ?hy54⟩) (by assumption) ?hr54
        case hy54 => (intro w hSw; (try dsimp only at hSw); go_simp; try with_reducible rfl)
        (try simp only [Act.put, List.getElem_toArray, List.getElem_cons_zero, List.getElem_cons_succ, List.setIfInBounds_toArray, List.set_cons_zero, List.set_cons_succ])
        refine wpAnyH_take (i := 27) (v := ?hv55) rfl (by kernel_rfl) (by kernel_rfl) (by kernel_rfl) (fun _ _ _ h => h) (Or.inl ⟨by rfl, ?hy55⟩) (by assumption) ?hr55
        case hy55 => (intro w hSw; (try dsimp only at hSw); go_simp; try with_reducible rfl)
        (try simp only [Act.put, List.getElem_toArray, List.getElem_cons_zero, List.getElem_cons_succ, List.setIfInBounds_toArray, List.set_cons_zero, List.set_cons_succ])
        refine wpAnyH_take (i := 28) (v := ?hv56) rfl (by kernel_rfl) (by kernel_rfl) (by kernel_rfl) (fun _ _ _ h => h) (Or.inl ⟨by rfl, ?hy56⟩) (by assumption) ?hr56
        case hy56 => (intro w hSw; (try dsimp only at hSw); go_simp; try with_reducible rfl)
        (try simp only [Act.put, List.getElem_toArray, List.getElem_cons_zero, List.getElem_cons_succ, List.setIfInBounds_toArray, List.set_cons_zero, List.set_cons_succ])
        refine wpAnyH_ready (rs := [29]) (by kernel_rfl) (by decide) (AllReadyH.cons rfl (fun K hK => ?_) AllReadyH.nil)
        · go_simp
          go_at_call 95
          refine (HCALL.out _).mono ?_
          rintro e w4 ⟨rfl, hw4⟩
          subst hw4
          go_wp2_with fail
          refine hK.out _ _ hHeld (fun hHeld3 => ?_)
          clear hK K
          try simp only [List.setIfInBounds_toArray, List.set_cons_zero, List.set_cons_succ, Act.put]
          refine wpAnyH_take (i := 30) (v := ?hv57) rfl (by kernel_rfl) (by kernel_rfl) (by kernel_rfl) (fun _ _ _ h => h) (Or.inl ⟨by rfl, ?hy57⟩) (by assumption) ?hr57
          case hy57 => (intro w hSw; (try dsimp only at hSw); go_simp; try with_reducible rfl)
          (try simp only [Act.put, List.getElem_toArray, List.getElem_cons_zero, List.getElem_cons_succ, List.setIfInBounds_toArray, List.set_cons_zero, List.set_cons_succ])
          refine wpAnyH_ready (rs := [31]) (by kernel_rfl) (by decide) (AllReadyH.cons rfl (fun K hK => ?_) AllReadyH.nil)
          go_simp
          refine hK.out _ (sSet w3 w.heap.size (2 + kd) i ((i : Int) + (sz : Int)) nm 0 false).drew (SpS.drew (SpS.set ⟨x0, x1, x2, x4, x5⟩ HNE.out)) (fun hHeld2 => ?_)
          clear hK K
          try simp only [List.setIfInBounds_toArray, List.set_cons_zero, List.set_cons_succ, Act.put]
          refine wpAnyH_take (i := 32) (v := ?hv58) rfl (by kernel_rfl) (by kernel_rfl) (by kernel_rfl) (fun _ _ _ h => h) (Or.inl ⟨by rfl, ?hy58⟩) (by assumption) ?hr58
          case hy58 => (intro w hSw; (try dsimp only at hSw); go_simp; try with_reducible rfl)
          (try simp only [Act.put, List.getElem_toArray, List.getElem_cons_zero, List.getElem_cons_succ, List.setIfInBounds_toArray, List.set_cons_zero, List.set_cons_succ])
          refine wpAnyH_take (i := 33) (v := ?hv59) rfl (by kernel_rfl) (by kernel_rfl) (by kernel_rfl) (fun _ _ _ h => h) (Or.inl ⟨by rfl, ?hy59⟩) (by assumption) ?hr59
          case hy59 => (intro w hSw; (try dsimp only at hSw); go_simp; try with_reducible rfl)
          (try simp only [Act.put, List.getElem_toArray, List.getElem_cons_zero, List.getElem_cons_succ, List.setIfInBounds_toArray, List.set_cons_zero, List.set_cons_succ])
          refine wpAnyH_done (by kernel_rfl) ?_ _
          have hbk := Blk.drew (sSet_blk (k := 2 + kd) (f := i) (t := (i : Int) + (sz : Int)) (nm := nm) (z := 0) (sg := false) HK3.out)
          have hbl2 := Below.drew (sSet_below (k := 2 + kd) (f := i) (t := (i : Int) + (sz : Int)) (nm := nm) (z := 0) (sg := false) (Nat.le_refl _) HW3.out)
          generalize (sSet w3 w.heap.size (2 + kd) i ((i : Int) + (sz : Int)) nm 0 false).drew = W at *
          have HBK := hid hbk
          have HBL2 := hid hbl2
          clear hHeld hHeld2 hbk hbl2 x0 x1 x2 x4 x5 y0 y1 y2 y3 y4 y5 yf
          go_wp2_with fail
          exact bodyPost_ret (results_row_tmp2 rfl _ _ w.heap.size _ _ _ _ rfl HBK.out Tryz.underlying29 rfl (by kernel_rfl)) rfl (retSp_tag HSP.out HFO.out rfl HBL2.out)
      · have HFO := hid (show false = (decide (kd = 0) && true && !true && rawsB nm) by rw [decide_eq_true hk]; rfl)
        clear hk
        refine wp_region_held_drew (S := fun w' : World => w'.cell? ⟨w2.heap.size, 0, none⟩ = some (.int .i64 kd) ∧ w'.cell? ⟨w2.heap.size, 1, none⟩ = some (.int .i64 sz) ∧ w'.cell? ⟨w2.heap.size, 2, none⟩ = some (.string nm) ∧ w'.cell? ⟨w2.heap.size, 4, none⟩ = some (.bool true) ∧ w'.cell? ⟨w2.heap.size, 5, none⟩ = some (.bool true)) (by kernel_rfl) ⟨x0, x1, x2, x4, x5⟩ (fun hHeld => ?_)
        refine wpAnyH_take (i := 0) (v := ?hv60) rfl (by kernel_rfl) (by kernel_rfl) (by kernel_rfl) (fun _ _ _ h => h) (Or.inl ⟨by rfl, ?hy60⟩) (by assumption) ?hr60
        case hy60 => (intro w hSw; (try dsimp only at hSw); go_simp; try with_reducible rfl)
        (try simp only [Act.put, List.getElem_toArray, List.getElem_cons_zero, List.setIfInBounds_toArray, List.set_cons_zero, List.set_cons_succ])
        refine wpAnyH_take (i := 1) (v := ?hv61) rfl (by kernel_rfl) (by kernel_rfl) (by kernel_rfl) (fun _ _ _ h => h) (Or.inl ⟨by rfl, ?hy61⟩) (by assumption) ?hr61
        case hy61 => (intro w hSw; (try dsimp only at hSw); go_simp; try with_reducible rfl)
        (try simp only [Act.put, List.getElem_toArray, List.getElem_cons_zero, List.getElem_cons_succ, List.setIfInBounds_toArray, List.set_cons_zero, List.set_cons_succ])
        try simp only [e1]
        refine wpAnyH_take (i := 2) (v := ?hv62) rfl (by kernel_rfl) (by kernel_rfl) (by kernel_rfl) (fun _ _ _ h => h) (Or.inl ⟨by rfl, ?hy62⟩) (by assumption) ?hr62
        case hy62 => (intro w hSw; (try dsimp only at hSw); go_simp; try with_reducible rfl)
        (try simp only [Act.put, List.getElem_toArray, List.getElem_cons_zero, List.getElem_cons_succ, List.setIfInBounds_toArray, List.set_cons_zero, List.set_cons_succ])
        refine wpAnyH_take (i := 3) (v := ?hv63) rfl (by kernel_rfl) (by kernel_rfl) (by kernel_rfl) (fun _ _ _ h => h) (Or.inl ⟨by rfl, ?hy63⟩) (by assumption) ?hr63
        case hy63 => (intro w hSw; (try dsimp only at hSw); go_simp; try with_reducible rfl)
        (try simp only [Act.put, List.getElem_toArray, List.getElem_cons_zero, List.getElem_cons_succ, List.setIfInBounds_toArray, List.set_cons_zero, List.set_cons_succ])
        refine wpAnyH_take (i := 4) (v := ?hv64) rfl (by kernel_rfl) (by kernel_rfl) (by kernel_rfl) (fun _ _ _ h => h) (Or.inl ⟨by rfl, ?hy64⟩) (by assumption) ?hr64
        case hy64 => (intro w hSw; (try dsimp only at hSw); go_simp; try with_reducible rfl)
        (try simp only [Act.put, List.getElem_toArray, List.getElem_cons_zero, List.getElem_cons_succ, List.setIfInBounds_toArray, List.set_cons_zero, List.set_cons_succ])
        refine wpAnyH_take (i := 5) (v := ?hv65) rfl (by kernel_rfl) (by kernel_rfl) (by kernel_rfl) (fun _ _ _ h => h) (Or.inl ⟨by rfl, ?hy65⟩) (by assumption) ?hr65
        case hy65 => (intro w hSw; (try dsimp only at hSw); go_simp; try with_reducible rfl)
        (try simp only [Act.put, List.getElem_toArray, List.getElem_cons_zero, List.getElem_cons_succ, List.setIfInBounds_toArray, List.set_cons_zero, List.set_cons_succ])
        refine wpAnyH_take (i := 6) (v := ?hv66) rfl (by kernel_rfl) (by kernel_rfl) (by kernel_rfl) (fun _ _ _ h => h) (Or.inl ⟨by rfl, ?hy66⟩) (by assumption) ?hr66
        case hy66 => (intro w hSw; (try dsimp only at hSw); go_simp; try with_reducible rfl)
        (try simp only [Act.put, List.getElem_toArray, List.getElem_cons_zero, List.getElem_cons_succ, List.setIfInBounds_toArray, List.set_cons_zero, List.set_cons_succ])
        try simp only [e2]
        refine wpAnyH_take (i := 7) (v := ?hv67) rfl (by kernel_rfl) (by kernel_rfl) (by kernel_rfl) (fun _ _ _ h => h) (Or.inl ⟨by rfl, ?hy67⟩) (by assumption) ?hr67
        case hy67 => (intro w hSw; (try dsimp only at hSw); go_simp; try with_reducible rfl)
        (try simp only [Act.put, List.getElem_toArray, List.getElem_cons_zero, List.getElem_cons_succ, List.setIfInBounds_toArray, List.set_cons_zero, List.set_cons_succ])
        refine wpAnyH_take (i := 8) (v := ?hv68) rfl (by kernel_rfl) (by kernel_rfl) (by kernel_rfl) (fun _ _ _ h => h) (Or.inl ⟨by rfl, ?hy68⟩) (by assumption) ?hr68
        case hy68 => (intro w hSw; (try dsimp only at hSw); go_simp; try with_reducible rfl)
        (try simp only [Act.put, List.getElem_toArray, List.getElem_cons_zero, List.getElem_cons_succ, List.setIfInBounds_toArray, List.set_cons_zero, List.set_cons_succ])
        refine wpAnyH_take (i := 9) (v := ?hv69) rfl (by kernel_rfl) (by kernel_rfl) (by kernel_rfl) (fun _ _ _ h => h) (Or.inl ⟨by rfl, ?hy69⟩) (by assumption) ?hr69
        case hy69 => (intro w hSw; (try dsimp only at hSw); go_simp; try with_reducible rfl)
        (try simp only [Act.put, List.getElem_toArray, List.getElem_cons_zero, List.getElem_cons_succ, List.setIfInBounds_toArray, List.set_cons_zero, List.set_cons_succ])
        refine wpAnyH_take (i := 10) (v := ?hv70) rfl (by kernel_rfl) (by kernel_rfl) (by kernel_rfl) (fun _ _ _ h => h) (Or.inl ⟨by rfl, ?hy70⟩) (by assumption) ?hr70
        case hy70 => (intro w hSw; (try dsimp only at hSw); go_simp; try with_reducible rfl)
        (try simp only [Act.put, List.getElem_toArray, List.getElem_cons_zero, List.getElem_cons_succ, List.setIfInBounds_toArray, List.set_cons_zero, List.set_cons_succ])
        refine wpAnyH_take (i := 11) (v := ?hv71) rfl (by kernel_rfl) (by kernel_rfl) (by kernel_rfl) (fun _ _ _ h => h) (Or.inl ⟨by rfl, ?hy71⟩) (by assumption) ?hr71
        case hy71 => (intro w hSw; (try dsimp only at hSw); go_simp; try with_reducible rfl)
        (try simp only [Act.put, List.getElem_toArray, List.getElem_cons_zero, List.getElem_cons_succ, List.setIfInBounds_toArray, List.set_cons_zero, List.set_cons_succ])
        refine wpAnyH_take (i := 12) (v := ?hv72) rfl (by kernel_rfl) (by kernel_rfl) (by kernel_rfl) (fun _ _ _ h => h) (Or.inl ⟨by rfl, ?hy72⟩) (by assumption) ?hr72
        case hy72 => (intro w hSw; (try dsimp only at hSw); go_simp; try with_reducible rfl)
        (try simp only [Act.put, List.getElem_toArray, List.getElem_cons_zero, List.getElem_cons_succ, List.setIfInBounds_toArray, List.set_cons_zero, List.set_cons_succ])
        refine wpAnyH_take (i := 13) (v := ?hv73) rfl (by kernel_rfl) (by kernel_rfl) (by kernel_rfl) (fun _ _ _ h => h) (Or.inl ⟨by rfl, ?hy73⟩) (by assumption) ?hr73
        case hy73 => (intro w hSw; (try dsimp only at hSw); go_simp; try with_reducible rfl)
        (try simp only [Act.put, List.getElem_toArray, List.getElem_cons_zero, List.getElem_cons_succ, List.setIfInBounds_toArray, List.set_cons_zero, List.set_cons_succ])
        refine wpAnyH_take (i := 14) (v := ?hv74) rfl (by kernel_rfl) (by kernel_rfl) (by kernel_rfl) (fun _ _ _ h => h) (Or.inl ⟨by rfl, ?hy74⟩) (by assumption) ?hr74
        case hy74 => (intro w hSw; (try dsimp only at hSw); go_simp; try with_reducible rfl)
        (try simp only [Act.put, List.getElem_toArray, List.getElem_cons_zero, List.getElem_cons_succ, List.setIfInBounds_toArray, List.set_cons_zero, List.set_cons_succ])
        refine wpAnyH_take (i := 15) (v := ?hv75) rfl (by kernel_rfl) (by kernel_rfl) (by kernel_rfl) (fun _ _ _ h => h) (Or.inl ⟨by rfl, ?hy75⟩) (by assumption) ?hr75
        case hy75 => (intro w hSw; (try dsimp only at hSw); go_simp; try with_reducible rfl)
        (try simp only [Act.put, List.getElem_toArray, List.getElem_cons_zero, List.getElem_cons_succ, List.setIfInBounds_toArray, List.set_cons_zero, List.set_cons_succ])
        try simp only [hkb]
        refine wpAnyH_take (i := 16) (v := ?hv76) rfl (by kernel_rfl) (by kernel_rfl) (by kernel_rfl) (fun _ _ _ h => h) (Or.inl ⟨by rfl, ?hy76⟩) (by assumption) ?hr76
        case hy76 => (intro w hSw; (try dsimp only at hSw); go_simp; try with_reducible rfl)
        (try simp only [Act.put, List.getElem_toArray, List.getElem_cons_zero, List.getElem_cons_succ, List.setIfInBounds_toArray, List.set_cons_zero, List.set_cons_succ])
        refine wpAnyH_take (i := 17) (v := ?hv77) rfl (by kernel_rfl) (by kernel_rfl) (by kernel_rfl) (fun _ _ _ h => h) (Or.inl ⟨by rfl, ?hy77⟩) (by assumption) ?hr77
        case hy77 => (intro w hSw; (try dsimp only at hSw); go_simp; try with_reducible rfl)
        (try simp only [Act.put, List.getElem_toArray, List.getElem_cons_zero, List.getElem_cons_succ, List.setIfInBounds_toArray, List.set_cons_zero, List.set_cons_succ])
        refine wpAnyH_take (i := 18) (v := ?hv78) rfl (by kernel_rfl) (by kernel_rfl) (by kernel_rfl) (fun _ _ _ h => h) (Or.inl ⟨by rfl, ?hy78⟩) (by assumption) ?hr78
        case hy78 => (intro w hSw; (try dsimp only at hSw); go_simp; try with_reducible rfl)
        (try simp only [Act.put, List.getElem_toArray, List.getElem_cons_zero, List.getElem_cons_succ, List.setIfInBounds_toArray, List.set_cons_zero, List.set_cons_succ])
        refine wpAnyH_take (i := 19) (v := ?hv79) rfl (by kernel_rfl) (by kernel_rfl) (by kernel_rfl) (fun _ _ _ h => h) (Or.inl ⟨by rfl, ?hy79⟩) (by assumption) ?hr79
        case hy79 => (intro w hSw; (try dsimp only at hSw); go_simp; try with_reducible rfl)
        (try simp only [Act.put, List.getElem_toArray, List.getElem_cons_zero, List.getElem_cons_succ, List.setIfInBounds_toArray, List.set_cons_zero, List.set_cons_succ])
        refine wpAnyH_take (i := 20) (v := ?hv80) rfl (by kernel_rfl) (by kernel_rfl) (by kernel_rfl) (fun _ _ _ h => h) (Or.inl ⟨by rfl, ?hy80⟩) (by assumption) ?hr80
        case hy80 => (intro w hSw; (try dsimp only at hSw); go_simp; try with_reducible rfl)
        (try simp only [Act.put, List.getElem_toArray, List.getElem_cons_zero, List.getElem_cons_succ, List.setIfInBounds_toArray, List.set_cons_zero, List.set_cons_succ])
        refine wpAnyH_take (i := 21) (v := ?hv81) rfl (by kernel_rfl) (by kernel_rfl) (by kernel_rfl) (fun _ _ _ h => h) (Or.inl ⟨by rfl, ?hy81⟩) (by assumption) ?hr81
        case hy81 => (intro w hSw; (try dsimp only at hSw); go_simp; try with_reducible rfl)
        (try simp only [Act.put, List.getElem_toArray, List.getElem_cons_zero, List.getElem_cons_succ, List.setIfInBounds_toArray, List.set_cons_zero, List.set_cons_succ])
        refine wpAnyH_take (i := 22) (v := ?hv82) rfl (by kernel_rfl) (by kernel_rfl) (by kernel_rfl) (fun _ _ _ h => h) (Or.inl ⟨by rfl, ?hy82⟩) (by assumption) ?hr82
        case hy82 => (intro w hSw; (try dsimp only at hSw); go_simp; try with_reducible rfl)
        (try simp only [Act.put, List.getElem_toArray, List.getElem_cons_zero, List.getElem_cons_succ, List.setIfInBounds_toArray, List.set_cons_zero, List.set_cons_succ])
        refine wpAnyH_take (i := 23) (v := ?hv83) rfl (by kernel_rfl) (by kernel_rfl) (by kernel_rfl) (fun _ _ _ h => h) (Or.inl ⟨by rfl, ?hy83⟩) (by assumption) ?hr83
        case hy83 => (intro w hSw; (try dsimp only at hSw); go_simp; try with_reducible rfl)
        (try simp only [Act.put, List.getElem_toArray, List.getElem_cons_zero, List.getElem_cons_succ, List.setIfInBounds_toArray, List.set_cons_zero, List.set_cons_succ])
        refine wpAnyH_take (i := 24) (v := ?hv84) rfl (by kernel_rfl) (by kernel_rfl) (by kernel_rfl) (fun _ _ _ h => h) (Or.inl ⟨by rfl, ?hy84⟩) (by assumption) ?hr84
        case hy84 => (intro w hSw; (try dsimp only at hSw); go_simp; try with_reducible rfl)
        (try simp only [Act.put, List.getElem_toArray, List.getElem_cons_zero, List.getElem_cons_succ, List.setIfInBounds_toArray, List.set_cons_zero, List.set_cons_succ])
        refine wpAnyH_take (i := 25) (v := ?hv85) rfl (by kernel_rfl) (by kernel_rfl) (by kernel_rfl) (fun _ _ _ h => h) (Or.inl ⟨by rfl, ?hy85⟩) (by assumption) ?hr85
        case hy85 => (intro w hSw; (try dsimp only at hSw); go_simp; try with_reducible rfl)
        (try simp only [Act.put, List.getElem_toArray, List.getElem_cons_zero, List.getElem_cons_succ, List.setIfInBounds_toArray, List.set_cons_zero, List.set_cons_succ])
        refine wpAnyH_take (i := 26) (v := ?hv86) rfl (by kernel_rfl) (by kernel_rfl) (by kernel_rfl) (fun _ _ _ h => h) (Or.inl ⟨by rfl, ?hy86⟩) (by assumption) ?hr86
        case hy86 => (intro w hSw; (try dsimp only at hSw); go_simp; try with_reducible rfl)
        (try simp only [Act.put, List.getElem_toArray, List.getElem_cons_zero, List.getElem_cons_succ, List.setIfInBounds_toArray, List.set_cons_zero, List.set_cons_succ])
        refine wpAnyH_take (i := 27) (v := undef) rfl (by kernel_rfl) (by kernel_rfl) (by kernel_rfl) (fun _ _ _ h => h) (Or.inr ⟨by rfl, rfl⟩) (by assumption) ?_
        (try simp only [Act.put, List.getElem_toArray, List.getElem_cons_zero, List.getElem_cons_succ, List.setIfInBounds_toArray, List.set_cons_zero, List.set_cons_succ])
        refine wpAnyH_take (i := 28) (v := undef) rfl (by kernel_rfl) (by kernel_rfl) (by kernel_rfl) (fun _ _ _ h => h) (Or.inr ⟨by rfl, rfl⟩) (by assumption) ?_
        (try simp only [Act.put, List.getElem_toArray, List.getElem_cons_zero, List.getElem_cons_succ, List.setIfInBounds_toArray, List.set_cons_zero, List.set_cons_succ])
        refine wpAnyH_take (i := 29) (v := undef) rfl (by kernel_rfl) (by kernel_rfl) (by kernel_rfl) (fun _ _ _ h => h) (Or.inr ⟨by rfl, rfl⟩) (by assumption) ?_
        (try simp only [Act.put, List.getElem_toArray, List.getElem_cons_zero, List.getElem_cons_succ, List.setIfInBounds_toArray, List.set_cons_zero, List.set_cons_succ])
        refine wpAnyH_take (i := 30) (v := ?hv87) rfl (by kernel_rfl) (by kernel_rfl) (by kernel_rfl) (fun _ _ _ h => h) (Or.inl ⟨by rfl, ?hy87⟩) (by assumption) ?hr87
        case hy87 => (intro w hSw; (try dsimp only at hSw); go_simp; try with_reducible rfl)
        (try simp only [Act.put, List.getElem_toArray, List.getElem_cons_zero, List.getElem_cons_succ, List.setIfInBounds_toArray, List.set_cons_zero, List.set_cons_succ])
        refine wpAnyH_ready (rs := [31]) (by kernel_rfl) (by decide) (AllReadyH.cons rfl (fun K hK => ?_) AllReadyH.nil)
        go_simp
        refine hK.out _ (sSet w3 w.heap.size (2 + kd) i ((i : Int) + (sz : Int)) nm 0 true).drew (SpS.drew (SpS.set ⟨x0, x1, x2, x4, x5⟩ HNE.out)) (fun hHeld2 => ?_)
        clear hK K
        try simp only [List.setIfInBounds_toArray, List.set_cons_zero, List.set_cons_succ, Act.put]
        refine wpAnyH_take (i := 32) (v := ?hv88) rfl (by kernel_rfl) (by kernel_rfl) (by kernel_rfl) (fun _ _ _ h => h) (Or.inl ⟨by rfl, ?hy88⟩) (by assumption) ?hr88
        case hy88 => (intro w hSw; (try dsimp only at hSw); go_simp; try with_reducible rfl)
        (try simp only [Act.put, List.getElem_toArray, List.getElem_cons_zero, List.getElem_cons_succ, List.setIfInBounds_toArray, List.set_cons_zero, List.set_cons_succ])
        refine wpAnyH_take (i := 33) (v := ?hv89) rfl (by kernel_rfl) (by kernel_rfl) (by kernel_rfl) (fun _ _ _ h => h) (Or.inl ⟨by rfl, ?hy89⟩) (by assumption) ?hr89
        case hy89 => (intro w hSw; (try dsimp only at hSw); go_simp; try with_reducible rfl)
        (try simp only [Act.put, List.getElem_toArray, List.getElem_cons_zero, List.getElem_cons_succ, List.setIfInBounds_toArray, List.set_cons_zero, List.set_cons_succ])
        refine wpAnyH_done (by kernel_rfl) ?_ _
        have hbk := Blk.drew (sSet_blk (k := 2 + kd) (f := i) (t := (i : Int) + (sz : Int)) (nm := nm) (z := 0) (sg := true) HK3.out)
        have hbl2 := Below.drew (sSet_below (k := 2 + kd) (f := i) (t := (i : Int) + (sz : Int)) (nm := nm) (z := 0) (sg := true) (Nat.le_refl _) HW3.out)
        generalize (sSet w3 w.heap.size (2 + kd) i ((i : Int) + (sz : Int)) nm 0 true).drew = W at *
        have HBK := hid hbk
        have HBL2 := hid hbl2
        clear hHeld hHeld2 hbk hbl2 x0 x1 x2 x4 x5 y0 y1 y2 y3 y4 y5 yf
        go_wp2_with fail
        exact bodyPost_ret (results_row_tmp2 rfl _ _ w.heap.size _ _ _ _ rfl HBK.out Tryz.underlying29 rfl (by kernel_rfl)) rfl (retSp_tag HSP.out HFO.out rfl HBL2.out)
  · have hkb : (kd == 0) = false := by simpa using hk
    have HFO := hid (show false = (decide (kd = 0) && cl && !sg && rawsB nm) by rw [decide_eq_false hk]; rfl)
    clear hk
    refine wp_region_held_drew (S := fun w' : World => w'.cell? ⟨w2.heap.size, 0, none⟩ = some (.int .i64 kd) ∧ w'.cell? ⟨w2.heap.size, 1, none⟩ = some (.int .i64 sz) ∧ w'.cell? ⟨w2.heap.size, 2, none⟩ = some (.string nm) ∧ w'.cell? ⟨w2.heap.size, 4, none⟩ = some (.bool sg) ∧ w'.cell? ⟨w2.heap.size, 5, none⟩ = some (.bool cl)) (by kernel_rfl) ⟨x0, x1, x2, x4, x5⟩ (fun hHeld => ?_)
    refine wpAnyH_take (i := 0) (v := ?hv90) rfl (by kernel_rfl) (by kernel_rfl) (by kernel_rfl) (fun _ _ _ h => h) (Or.inl ⟨by rfl, ?hy90⟩) (by assumption) ?hr90
    case hy90 => (intro w hSw; (try dsimp only at hSw); go_simp; try with_reducible rfl)
    (try simp only [Act.put, List.getElem_toArray, List.getElem_cons_zero, List.setIfInBounds_toArray, List.set_cons_zero, List.set_cons_succ])
    refine wpAnyH_take (i := 1) (v := ?hv91) rfl (by kernel_rfl) (by kernel_rfl) (by kernel_rfl) (fun _ _ _ h => h) (Or.inl ⟨by rfl, ?hy91⟩) (by assumption) ?hr91
    case hy91 => (intro w hSw; (try dsimp only at hSw); go_simp; try with_reducible rfl)
    (try simp only [Act.put, List.getElem_toArray, List.getElem_cons_zero, List.getElem_cons_succ, List.setIfInBounds_toArray, List.set_cons_zero, List.set_cons_succ])
    try simp only [e1]
    refine wpAnyH_take (i := 2) (v := ?hv92) rfl (by kernel_rfl) (by kernel_rfl) (by kernel_rfl) (fun _ _ _ h => h) (Or.inl ⟨by rfl, ?hy92⟩) (by assumption) ?hr92
    case hy92 => (intro w hSw; (try dsimp only at hSw); go_simp; try with_reducible rfl)
    (try simp only [Act.put, List.getElem_toArray, List.getElem_cons_zero, List.getElem_cons_succ, List.setIfInBounds_toArray, List.set_cons_zero, List.set_cons_succ])
    refine wpAnyH_take (i := 3) (v := ?hv93) rfl (by kernel_rfl) (by kernel_rfl) (by kernel_rfl) (fun _ _ _ h => h) (Or.inl ⟨by rfl, ?hy93⟩) (by assumption) ?hr93
    case hy93 => (intro w hSw; (try dsimp only at hSw); go_simp; try with_reducible rfl)
    (try simp only [Act.put, List.getElem_toArray, List.getElem_cons_zero, List.getElem_cons_succ, List.setIfInBounds_toArray, List.set_cons_zero, List.set_cons_succ])
    refine wpAnyH_take (i := 4) (v := ?hv94) rfl (by kernel_rfl) (by kernel_rfl) (by kernel_rfl) (fun _ _ _ h => h) (Or.inl ⟨by rfl, ?hy94⟩) (by assumption) ?hr94
    case hy94 => (intro w hSw; (try dsimp only at hSw); go_simp; try with_reducible rfl)
    (try simp only [Act.put, List.getElem_toArray, List.getElem_cons_zero, List.getElem_cons_succ, List.setIfInBounds_toArray, List.set_cons_zero, List.set_cons_succ])
    refine wpAnyH_take (i := 5) (v := ?hv95) rfl (by kernel_rfl) (by kernel_rfl) (by kernel_rfl) (fun _ _ _ h => h) (Or.inl ⟨by rfl, ?hy95⟩) (by assumption) ?hr95
    case hy95 => (intro w hSw; (try dsimp only at hSw); go_simp; try with_reducible rfl)
    (try simp only [Act.put, List.getElem_toArray, List.getElem_cons_zero, List.getElem_cons_succ, List.setIfInBounds_toArray, List.set_cons_zero, List.set_cons_succ])
    refine wpAnyH_take (i := 6) (v := ?hv96) rfl (by kernel_rfl) (by kernel_rfl) (by kernel_rfl) (fun _ _ _ h => h) (Or.inl ⟨by rfl, ?hy96⟩) (by assumption) ?hr96
    case hy96 => (intro w hSw; (try dsimp only at hSw); go_simp; try with_reducible rfl)
    (try simp only [Act.put, List.getElem_toArray, List.getElem_cons_zero, List.getElem_cons_succ, List.setIfInBounds_toArray, List.set_cons_zero, List.set_cons_succ])
    try simp only [e2]
    refine wpAnyH_take (i := 7) (v := ?hv97) rfl (by kernel_rfl) (by kernel_rfl) (by kernel_rfl) (fun _ _ _ h => h) (Or.inl ⟨by rfl, ?hy97⟩) (by assumption) ?hr97
    case hy97 => (intro w hSw; (try dsimp only at hSw); go_simp; try with_reducible rfl)
    (try simp only [Act.put, List.getElem_toArray, List.getElem_cons_zero, List.getElem_cons_succ, List.setIfInBounds_toArray, List.set_cons_zero, List.set_cons_succ])
    refine wpAnyH_take (i := 8) (v := ?hv98) rfl (by kernel_rfl) (by kernel_rfl) (by kernel_rfl) (fun _ _ _ h => h) (Or.inl ⟨by rfl, ?hy98⟩) (by assumption) ?hr98
    case hy98 => (intro w hSw; (try dsimp only at hSw); go_simp; try with_reducible rfl)
    (try simp only [Act.put, List.getElem_toArray, List.getElem_cons_zero, List.getElem_cons_succ, List.setIfInBounds_toArray, List.set_cons_zero, List.set_cons_succ])
    refine wpAnyH_take (i := 9) (v := ?hv99) rfl (by kernel_rfl) (by kernel_rfl) (by kernel_rfl) (fun _ _ _ h => h) (Or.inl ⟨by rfl, ?hy99⟩) (by assumption) ?hr99
    case hy99 => (intro w hSw; (try dsimp only at hSw); go_simp; try with_reducible rfl)
    (try simp only [Act.put, List.getElem_toArray, List.getElem_cons_zero, List.getElem_cons_succ, List.setIfInBounds_toArray, List.set_cons_zero, List.set_cons_succ])
    refine wpAnyH_take (i := 10) (v := ?hv100) rfl (by kernel_rfl) (by kernel_rfl) (by kernel_rfl) (fun _ _ _ h => h) (Or.inl ⟨by rfl, ?hy100⟩) (by assumption) ?hr100
    case hy100 => (intro w hSw; (try dsimp only at hSw); go_simp; try with_reducible rfl)
    (try simp only [Act.put, List.getElem_toArray, List.getElem_cons_zero, List.getElem_cons_succ, List.setIfInBounds_toArray, List.set_cons_zero, List.set_cons_succ])
    refine wpAnyH_take (i := 11) (v := ?hv101) rfl (by kernel_rfl) (by kernel_rfl) (by kernel_rfl) (fun _ _ _ h => h) (Or.inl ⟨by rfl, ?hy101⟩) (by assumption) ?hr101
    case hy101 => (intro w hSw; (try dsimp only at hSw); go_simp; try with_reducible rfl)
    (try simp only [Act.put, List.getElem_toArray, List.getElem_cons_zero, List.getElem_cons_succ, List.setIfInBounds_toArray, List.set_cons_zero, List.set_cons_succ])
    refine wpAnyH_take (i := 12) (v := ?hv102) rfl (by kernel_rfl) (by kernel_rfl) (by kernel_rfl) (fun _ _ _ h => h) (Or.inl ⟨by rfl, ?hy102⟩) (by assumption) ?hr102
    case hy102 => (intro w hSw; (try dsimp only at hSw); go_simp; try with_reducible rfl)
    (try simp only [Act.put, List.getElem_toArray, List.getElem_cons_zero, List.getElem_cons_succ, List.setIfInBounds_toArray, List.set_cons_zero, List.set_cons_succ])
    refine wpAnyH_take (i := 13) (v := ?hv103) rfl (by kernel_rfl) (by kernel_rfl) (by kernel_rfl) (fun _ _ _ h => h) (Or.inl ⟨by rfl, ?hy103⟩) (by assumption) ?hr103
    case hy103 => (intro w hSw; (try dsimp only at hSw); go_simp; try with_reducible rfl)
    (try simp only [Act.put, List.getElem_toArray, List.getElem_cons_zero, List.getElem_cons_succ, List.setIfInBounds_toArray, List.set_cons_zero, List.set_cons_succ])
    refine wpAnyH_take (i := 14) (v := ?hv104) rfl (by kernel_rfl) (by kernel_rfl) (by kernel_rfl) (fun _ _ _ h => h) (Or.inl ⟨by rfl, ?hy104⟩) (by assumption) ?hr104
    case hy104 => (intro w hSw; (try dsimp only at hSw); go_simp; try with_reducible rfl)
    (try simp only [Act.put, List.getElem_toArray, List.getElem_cons_zero, List.getElem_cons_succ, List.setIfInBounds_toArray, List.set_cons_zero, List.set_cons_succ])
    refine wpAnyH_take (i := 15) (v := ?hv105) rfl (by kernel_rfl) (by kernel_rfl) (by kernel_rfl) (fun _ _ _ h => h) (Or.inl ⟨by rfl, ?hy105⟩) (by assumption) ?hr105
    case hy105 => (intro w hSw; (try dsimp only at hSw); go_simp; try with_reducible rfl)
    (try simp only [Act.put, List.getElem_toArray, List.getElem_cons_zero, List.getElem_cons_succ, List.setIfInBounds_toArray, List.set_cons_zero, List.set_cons_succ])
    try simp only [hkb]
    refine wpAnyH_take (i := 16) (v := ?hv106) rfl (by kernel_rfl) (by kernel_rfl) (by kernel_rfl) (fun _ _ _ h => h) (Or.inl ⟨by rfl, ?hy106⟩) (by assumption) ?hr106
    case hy106 => (intro w hSw; (try dsimp only at hSw); go_simp; try with_reducible rfl)
    (try simp only [Act.put, List.getElem_toArray, List.getElem_cons_zero, List.getElem_cons_succ, List.setIfInBounds_toArray, List.set_cons_zero, List.set_cons_succ])
    refine wpAnyH_take (i := 17) (v := ?hv107) rfl (by kernel_rfl) (by kernel_rfl) (by kernel_rfl) (fun _ _ _ h => h) (Or.inl ⟨by rfl, ?hy107⟩) (by assumption) ?hr107
    case hy107 => (intro w hSw; (try dsimp only at hSw); go_simp; try with_reducible rfl)
    (try simp only [Act.put, List.getElem_toArray, List.getElem_cons_zero, List.getElem_cons_succ, List.setIfInBounds_toArray, List.set_cons_zero, List.set_cons_succ])
    refine wpAnyH_take (i := 18) (v := undef) rfl (by kernel_rfl) (by kernel_rfl) (by kernel_rfl) (fun _ _ _ h => h) (Or.inr ⟨by rfl, rfl⟩) (by assumption) ?_
    (try simp only [Act.put, List.getElem_toArray, List.getElem_cons_zero, List.getElem_cons_succ, List.setIfInBounds_toArray, List.set_cons_zero, List.set_cons_succ])
    refine wpAnyH_take (i := 19) (v := undef) rfl (by kernel_rfl) (by kernel_rfl) (by kernel_rfl) (fun _ _ _ h => h) (Or.inr ⟨by rfl, rfl⟩) (by assumption) ?_
    (try simp only [Act.put, List.getElem_toArray, List.getElem_cons_zero, List.getElem_cons_succ, List.setIfInBounds_toArray, List.set_cons_zero, List.set_cons_succ])
    refine wpAnyH_take (i := 20) (v := ?hv108) rfl (by kernel_rfl) (by kernel_rfl) (by kernel_rfl) (fun _ _ _ h => h) (Or.inl ⟨by rfl, ?hy108⟩) (by assumption) ?hr108
    case hy108 => (intro w hSw; (try dsimp only at hSw); go_simp; try with_reducible rfl)
    (try simp only [Act.put, List.getElem_toArray, List.getElem_cons_zero, List.getElem_cons_succ, List.setIfInBounds_toArray, List.set_cons_zero, List.set_cons_succ])
    refine wpAnyH_take (i := 21) (v := ?hv109) rfl (by kernel_rfl) (by kernel_rfl) (by kernel_rfl) (fun _ _ _ h => h) (Or.inl ⟨by rfl, ?hy109⟩) (by assumption) ?hr109
    case hy109 => (intro w hSw; (try dsimp only at hSw); go_simp; try with_reducible rfl)
    (try simp only [Act.put, List.getElem_toArray, List.getElem_cons_zero, List.getElem_cons_succ, List.setIfInBounds_toArray, List.set_cons_zero, List.set_cons_succ])
    refine wpAnyH_take (i := 22) (v := undef) rfl (by kernel_rfl) (by kernel_rfl) (by kernel_rfl) (fun _ _ _ h => h) (Or.inr ⟨by rfl, rfl⟩) (by assumption) ?_
    (try simp only [Act.put, List.getElem_toArray, List.getElem_cons_zero, List.getElem_cons_succ, List.setIfInBounds_toArray, List.set_cons_zero, List.set_cons_succ])
    refine wpAnyH_take (i := 23) (v := undef) rfl (by kernel_rfl) (by kernel_rfl) (by kernel_rfl) (fun _ _ _ h => h) (Or.inr ⟨by rfl, rfl⟩) (by assumption) ?_
    (try simp only [Act.put, List.getElem_toArray, List.getElem_cons_zero, List.getElem_cons_succ, List.setIfInBounds_toArray, List.set_cons_zero, List.set_cons_succ])
    refine wpAnyH_take (i := 24) (v := undef) rfl (by kernel_rfl) (by kernel_rfl) (by kernel_rfl) (fun _ _ _ h => h) (Or.inr ⟨by rfl, rfl⟩) (by assumption) ?_
    (try simp only [Act.put, List.getElem_toArray, List.getElem_cons_zero, List.getElem_cons_succ, List.setIfInBounds_toArray, List.set_cons_zero, List.set_cons_succ])
    refine wpAnyH_take (i := 25) (v := ?hv110) rfl (by kernel_rfl) (by kernel_rfl) (by kernel_rfl) (fun _ _ _ h => h) (Or.inl ⟨by rfl, ?hy110⟩) (by assumption) ?hr110
    case hy110 => (intro w hSw; (try dsimp only at hSw); go_simp; try with_reducible rfl)
    (try simp only [Act.put, List.getElem_toArray, List.getElem_cons_zero, List.getElem_cons_succ, List.setIfInBounds_toArray, List.set_cons_zero, List.set_cons_succ])
    refine wpAnyH_take (i := 26) (v := ?hv111) rfl (by kernel_rfl) (by kernel_rfl) (by kernel_rfl) (fun _ _ _ h => h) (Or.inl ⟨by rfl, ?hy111⟩) (by assumption) ?hr111
    case hy111 => (intro w hSw; (try dsimp only at hSw); go_simp; try with_reducible rfl)
    (try simp only [Act.put, List.getElem_toArray, List.getElem_cons_zero, List.getElem_cons_succ, List.setIfInBounds_toArray, List.set_cons_zero, List.set_cons_succ])
    refine wpAnyH_take (i := 27) (v := undef) rfl (by kernel_rfl) (by kernel_rfl) (by kernel_rfl) (fun _ _ _ h => h) (Or.inr ⟨by rfl, rfl⟩) (by assumption) ?_
    (try simp only [Act.put, List.getElem_toArray, List.getElem_cons_zero, List.getElem_cons_succ, List.setIfInBounds_toArray, List.set_cons_zero, List.set_cons_succ])
    refine wpAnyH_take (i := 28) (v := undef) rfl (by kernel_rfl) (by kernel_rfl) (by kernel_rfl) (fun _ _ _ h => h) (Or.inr ⟨by rfl, rfl⟩) (by assumption) ?_
    (try simp only [Act.put, List.getElem_toArray, List.getElem_cons_zero, List.getElem_cons_succ, List.setIfInBounds_toArray, List.set_cons_zero, List.set_cons_succ])
    refine wpAnyH_take (i := 29) (v := undef) rfl (by kernel_rfl) (by kernel_rfl) (by kernel_rfl) (fun _ _ _ h => h) (Or.inr ⟨by rfl, rfl⟩) (by assumption) ?_
    (try simp only [Act.put, List.getElem_toArray, List.getElem_cons_zero, List.getElem_cons_succ, List.setIfInBounds_toArray, List.set_cons_zero, List.set_cons_succ])
    refine wpAnyH_take (i := 30) (v := ?hv112) rfl (by kernel_rfl) (by kernel_rfl) (by kernel_rfl) (fun _ _ _ h => h) (Or.inl ⟨by rfl, ?hy112⟩) (by assumption) ?hr112
    case hy112 => (intro w hSw; (try dsimp only at hSw); go_simp; try with_reducible rfl)
    (try simp only [Act.put, List.getElem_toArray, List.getElem_cons_zero, List.getElem_cons_succ, List.setIfInBounds_toArray, List.set_cons_zero, List.set_cons_succ])
    refine wpAnyH_ready (rs := [31]) (by kernel_rfl) (by decide) (AllReadyH.cons rfl (fun K hK => ?_) AllReadyH.nil)
    go_simp
    refine hK.out _ (sSet w3 w.heap.size (2 + kd) i ((i : Int) + (sz : Int)) nm 0 sg).drew (SpS.drew (SpS.set ⟨x0, x1, x2, x4, x5⟩ HNE.out)) (fun hHeld2 => ?_)
    clear hK K
    try simp only [List.setIfInBounds_toArray, List.set_cons_zero, List.set_cons_succ, Act.put]
    refine wpAnyH_take (i := 32) (v := ?hv113) rfl (by kernel_rfl) (by kernel_rfl) (by kernel_rfl) (fun _ _ _ h => h) (Or.inl ⟨by rfl, ?hy113⟩) (by assumption) ?hr113
    case hy113 => (intro w hSw; (try dsimp only at hSw); go_simp; try with_reducible rfl)
    (try simp only [Act.put, List.getElem_toArray, List.getElem_cons_zero, List.getElem_cons_succ, List.setIfInBounds_toArray, List.set_cons_zero, List.set_cons_succ])
    refine wpAnyH_take (i := 33) (v := ?hv114) rfl (by kernel_rfl) (by kernel_rfl) (by kernel_rfl) (fun _ _ _ h => h) (Or.inl ⟨by rfl, ?hy114⟩) (by assumption) ?hr114
    case hy114 => (intro w hSw; (try dsimp only at hSw); go_simp; try with_reducible rfl)
    (try simp only [Act.put, List.getElem_toArray, List.getElem_cons_zero, List.getElem_cons_succ, List.setIfInBounds_toArray, List.set_cons_zero, List.set_cons_succ])
    refine wpAnyH_done (by kernel_rfl) ?_ _
    have hbk := Blk.drew (sSet_blk (k := 2 + kd) (f := i) (t := (i : Int) + (sz : Int)) (nm := nm) (z := 0) (sg := sg) HK3.out)
    have hbl2 := Below.drew (sSet_below (k := 2 + kd) (f := i) (t := (i : Int) + (sz : Int)) (nm := nm) (z := 0) (sg := sg) (Nat.le_refl _) HW3.out)
    generalize (sSet w3 w.heap.size (2 + kd) i ((i : Int) + (sz : Int)) nm 0 sg).drew = W at *
    have HBK := hid hbk
    have HBL2 := hid hbl2
    clear hHeld hHeld2 hbk hbl2 x0 x1 x2 x4 x5 y0 y1 y2 y3 y4 y5 yf
    go_wp2_with fail
    exact bodyPost_ret (results_row_tmp2 rfl _ _ w.heap.size _ _ _ _ rfl HBK.out Tryz.underlying29 rfl (by kernel_rfl)) rfl (retSp_tag HSP.out HFO.out rfl HBL2.out)
end Go.Proofs.YtpnbkecchfhimaaGreatDoor

/- out of TkD -/
namespace Go.Proofs.YtpnbkecchfhimaaGreatDoor
open Go.RowKit
open Go.Lib (hid)
set_option linter.unusedVariables false
set_option maxRecDepth 100000

theorem retSp_of {w : World} {s : ByteArray} {i k : Nat} {kd r : Int} (hsp : specA s i = if 0 < k then some ⟨kd, k, noB, r, false, false⟩ else none)
    {e : Ending} {W : World} (he : e = .returned (.tuple #[.agg #[.int .i64 kd, .int .i64 i, .int .i64 ((i : Int) + (k : Int)), .string ⟨#[]⟩, .int .i32 r, .bool false], .bool (decide (0 < k)), .bool false])) (hW : Below w.heap.size w W) : RetSp w e W s i := by
  refine ⟨⟨kd, i, i + k, noB, r, false⟩, false, ?_, fun sp h => ?_, hW⟩
  · have : specB s i = decide (0 < k) := by
      unfold specB
      rw [hsp]
      by_cases h : 0 < k
      · rw [if_pos h, decide_eq_true h]; rfl
      · rw [if_neg h, decide_eq_false h]; rfl
    rw [he, this]
    rfl
  · rw [hsp] at h
    split at h
    · injection h with h
      subst h
      exact ⟨rfl, rfl⟩
    · cases h
theorem cell_drewT (w : World) (a : Addr) : w.drew.cell? a = w.cell? a := rfl
theorem sSet_farD {w : World} {r q j : Nat} {k f t : Int} {nm : ByteArray} {z : Int} {sg : Bool} {u : Value} (hne : r ≠ q) (h : w.cell? ⟨q, j, none⟩ = some u) : (sSet w r k f t nm z sg).drew.cell? ⟨q, j, none⟩ = some u := (cell_drewT _ _).trans ((sSet_far hne).trans h)
theorem dec_cast (k : Nat) : decide ((0 : Int) < (k : Int)) = decide (0 < k) := by
  by_cases h : 0 < k
  · rw [decide_eq_true h, decide_eq_true (by omega)]
  · rw [decide_eq_false h, decide_eq_false (by omega)]
set_option maxHeartbeats 4000000 in
theorem special_ent (b off n cap i : Nat) (s : ByteArray) (w : World) (hb : BA w (some ⟨b, off, none⟩) n cap s) (hm : n ≤ 1000000) (hi : i < n) (h38 : byt s i = 38) :
    Calls Tryz.prog 65 #[.slice (some ⟨b, off, none⟩) n cap, .int .i64 i] w fun e w' => RetSp w e w' s i := by
  have hns := hb.1
  obtain ⟨b', off', e0, hbl, hz⟩ := hb.2.2.2 (by omega)
  obtain ⟨rfl, rfl⟩ : b = b' ∧ off = off' := by injection e0 with e0; injection e0 with e1 e2 _; exact ⟨e1, e2⟩
  have c0 := bytes_cell hz (i := i) (by omega)
  rw [h38] at c0
  have hi' : (i : Int) < (n : Int) := by omega
  have hw1 : Below w.heap.size w (w.alloc (.cells tk0 29)) := (Below.refl _ _).alloc (Nat.le_refl _) _
  have hk1 := Blk.new w 29 tk0
  have hrd := entread_any (some ⟨b, off, none⟩) n cap i s _ (hb.below hw1 (Nat.le_refl _)) hm (by omega)
  have hc1 := (hw1.cell (p := ⟨b, off + i, none⟩) hbl).trans c0
  have hsp : specA s i = (entR s i).map fun p => ⟨1, p.2, noB, p.1, false, false⟩ := by unfold specA; rw [if_neg (by rw [h38]; decide), if_pos h38]
  obtain ⟨r, k, hv, hsp2, hk⟩ : ∃ (r : Int) (k : Nat), pairV (entR s i) = .tuple #[.int .i32 r, .int .i64 k] ∧ (specA s i = if 0 < k then some ⟨1, k, noB, r, false, false⟩ else none) ∧ i + k ≤ 2000000 := by
    rw [hsp]
    cases he : entR s i with
    | none => exact ⟨0, 0, rfl, rfl, by omega⟩
    | some p =>
      obtain ⟨h1, h2⟩ := entR_bd he
      exact ⟨p.1, p.2, rfl, by rw [if_pos (by omega)]; rfl, by omega⟩
  rw [hv] at hrd
  have HRD := hid hrd
  have HSP := hid hsp2
  have e2 : IntKind.i64.wrap ((i : Int) + (k : Int)) = (i : Int) + (k : Int) := IntWalk.i64_in _ (by omega)
  clear hb hz hrd e0 h38 hns hsp hsp2 hv hk
  simp only [tk0] at hw1 hk1 hc1 HRD
  go_enter Tryz.func65, Tryz.ntmps65
  go_upto_region 1 with fail
  generalize w.alloc (.cells #[.int .i64 0, .int .i64 0, .int .i64 0, .string ⟨#[]⟩, .int .i32 0, .bool false] 29) = w1 at *
  have HW1 := hid hw1
  have HK1 := hid hk1
  clear hw1 hk1
  go_wp2_with fail
  refine HRD.out.mono ?_
  rintro e w2 ⟨rfl, hb2⟩
  have hk2 := HK1.out.below hb2 HK1.out.lt
  have hw2 := HW1.out.trans (hb2.mono HW1.out.size)
  have yf := hk2.frozen
  have y0 := hk2.cell 0
  have y1 := hk2.cell 1
  have y2 := hk2.cell 2
  have y3 := hk2.cell 3
  have y4 := hk2.cell 4
  have y5 := hk2.cell 5
  simp only [List.getElem?_toArray, List.getElem?_cons_zero, List.getElem?_cons_succ] at y0 y1 y2 y3 y4 y5
  have HBK := hid (sSet_blk (k := 1) (f := i) (t := (i : Int) + (k : Int)) (nm := ⟨#[]⟩) (z := r) (sg := false) hk2)
  have HBL := hid (sSet_below (k := 1) (f := i) (t := (i : Int) + (k : Int)) (nm := ⟨#[]⟩) (z := r) (sg := false) (Nat.le_refl _) hw2)
  clear hb2 hk2 hw2
  go_wp2_with fail
  change bodyPost _ _ _ _ _ (sSet w2 w.heap.size 1 i ((i : Int) + (k : Int)) ⟨#[]⟩ r false)
  generalize sSet w2 w.heap.size 1 i ((i : Int) + (k : Int)) ⟨#[]⟩ r false = W at *
  exact bodyPost_ret (results_row_tmp2 rfl _ _ w.heap.size _ _ _ _ rfl HBK.out Tryz.underlying29 rfl (by kernel_rfl)) rfl (retSp_of HSP.out rfl HBL.out)
set_option maxHeartbeats 4000000 in
theorem special_ansi (b off n cap i : Nat) (s : ByteArray) (w : World) (hb : BA w (some ⟨b, off, none⟩) n cap s) (hm : n ≤ 1000000) (hi : i < n) (h60 : byt s i ≠ 60) (h38 : byt s i ≠ 38) :
    Calls Tryz.prog 65 #[.slice (some ⟨b, off, none⟩) n cap, .int .i64 i] w fun e w' => RetSp w e w' s i := by
  have hns := hb.1
  obtain ⟨b', off', e0, hbl, hz⟩ := hb.2.2.2 (by omega)
  obtain ⟨rfl, rfl⟩ : b = b' ∧ off = off' := by injection e0 with e0; injection e0 with e1 e2 _; exact ⟨e1, e2⟩
  have c0 := bytes_cell hz (i := i) (by omega)
  have hi' : (i : Int) < (n : Int) := by omega
  have hw1 : Below w.heap.size w (w.alloc (.cells tk0 29)) := (Below.refl _ _).alloc (Nat.le_refl _) _
  have hk1 := Blk.new w 29 tk0
  have hrd := read_any_a (some ⟨b, off, none⟩) n cap i s _ (hb.below hw1 (Nat.le_refl _)) (by omega) (by omega)
  have hc1 := (hw1.cell (p := ⟨b, off + i, none⟩) hbl).trans c0
  have hsp : specA s i = if 0 < (readE s i).size then some ⟨6, (readE s i).size, noB, 0, false, false⟩ else none := by unfold specA; rw [if_neg h60, if_neg h38]
  have hk : i + (readE s i).size ≤ 2000000 := by
    by_cases h : 0 < (readE s i).size
    · have := readE_bd s i h; omega
    · omega
  obtain ⟨E, hE⟩ : ∃ E, E = readE s i := ⟨_, rfl⟩
  rw [← hE] at hrd hsp hk
  obtain ⟨k, wh, op, la⟩ := E
  simp only [Es.val] at hrd hsp hk
  have HRD := hid hrd
  have HSP := hid hsp
  have e2 : IntKind.i64.wrap ((i : Int) + (k : Int)) = (i : Int) + (k : Int) := IntWalk.i64_in _ (by omega)
  have q60 : (byt s i == 60) = false := by simpa using h60
  have q38 : (byt s i == 38) = false := by simpa using h38
  generalize byt s i = c at *
  clear hb hz hrd e0 h38 h60 hns hsp hk hE
  simp only [tk0] at hw1 hk1 hc1 HRD
  go_enter Tryz.func65, Tryz.ntmps65
  go_upto_region 1 with fail
  generalize w.alloc (.cells #[.int .i64 0, .int .i64 0, .int .i64 0, .string ⟨#[]⟩, .int .i32 0, .bool false] 29) = w1 at *
  have HW1 := hid hw1
  have HK1 := hid hk1
  clear hw1 hk1
  go_wp2_with fail
  refine HRD.out.mono ?_
  rintro e w2 ⟨rfl, hb2⟩
  have hk2 := HK1.out.below hb2 HK1.out.lt
  have hw2 := HW1.out.trans (hb2.mono HW1.out.size)
  have hs2 := hw2.size
  have hk3 := hk2.alloc (.cells #[.int .i64 k, .bool wh, .bool op, .int .u8 la] 106)
  have hw3 := hw2.alloc hs2 (.cells #[.int .i64 k, .bool wh, .bool op, .int .u8 la] 106)
  have hx := Blk.new w2 106 #[.int .i64 k, .bool wh, .bool op, .int .u8 la]
  have hne : w.heap.size ≠ w2.heap.size := by
    have := hk2.lt
    omega
  have x0 := hx.cell 0
  simp only [List.getElem?_toArray, List.getElem?_cons_zero] at x0
  have HK3 := hid hk3
  have HW3 := hid hw3
  have HNE := hid hne
  clear hb2 hk2 hw2 hk3 hw3 hx hne hs2
  go_upto_region 9 with fail
  generalize w2.alloc (.cells #[.int .i64 k, .bool wh, .bool op, .int .u8 la] 106) = w3 at *
  have y0 := HK3.out.cell 0
  have y1 := HK3.out.cell 1
  have y2 := HK3.out.cell 2
  have y3 := HK3.out.cell 3
  have y4 := HK3.out.cell 4
  have y5 := HK3.out.cell 5
  have yf := HK3.out.frozen
  simp only [List.getElem?_toArray, List.getElem?_cons_zero, List.getElem?_cons_succ] at y0 y1 y2 y3 y4 y5
  refine wp_region_held_drew (S := fun w' : World => w'.cell? ⟨w2.heap.size, 0, none⟩ = some (.int .i64 k)) (by kernel_rfl) x0 (fun hHeld => ?_)
  refine wpAnyH_take (i := 0) (v := ?hv1) rfl (by kernel_rfl) (by kernel_rfl) (by kernel_rfl) (fun _ _ _ h => h) (Or.inl ⟨by rfl, ?hy1⟩) (by assumption) ?hr1
  case hy1 => (intro w hSw; (try dsimp only at hSw); go_simp; try with_reducible rfl)
  (try simp only [Act.put, List.getElem_toArray, List.getElem_cons_zero, List.setIfInBounds_toArray, List.set_cons_zero, List.set_cons_succ])
  refine wpAnyH_take (i := 1) (v := ?hv2) rfl (by kernel_rfl) (by kernel_rfl) (by kernel_rfl) (fun _ _ _ h => h) (Or.inl ⟨by rfl, ?hy2⟩) (by assumption) ?hr2
  case hy2 => (intro w hSw; (try dsimp only at hSw); go_simp; try with_reducible rfl)
  (try simp only [Act.put, List.getElem_toArray, List.getElem_cons_zero, List.getElem_cons_succ, List.setIfInBounds_toArray, List.set_cons_zero, List.set_cons_succ])
  refine wpAnyH_take (i := 2) (v := ?hv3) rfl (by kernel_rfl) (by kernel_rfl) (by kernel_rfl) (fun _ _ _ h => h) (Or.inl ⟨by rfl, ?hy3⟩) (by assumption) ?hr3
  case hy3 => (intro w hSw; (try dsimp only at hSw); go_simp; try with_reducible rfl)
  (try simp only [Act.put, List.getElem_toArray, List.getElem_cons_zero, List.getElem_cons_succ, List.setIfInBounds_toArray, List.set_cons_zero, List.set_cons_succ])
  refine wpAnyH_take (i := 3) (v := ?hv4) rfl (by kernel_rfl) (by kernel_rfl) (by kernel_rfl) (fun _ _ _ h => h) (Or.inl ⟨by rfl, ?hy4⟩) (by assumption) ?hr4
  case hy4 => (intro w hSw; (try dsimp only at hSw); go_simp; try with_reducible rfl)
  (try simp only [Act.put, List.getElem_toArray, List.getElem_cons_zero, List.getElem_cons_succ, List.setIfInBounds_toArray, List.set_cons_zero, List.set_cons_succ])
  try simp only [e2]
  refine wpAnyH_take (i := 4) (v := ?hv5) rfl (by kernel_rfl) (by kernel_rfl) (by kernel_rfl) (fun _ _ _ h => h) (Or.inl ⟨by rfl, ?hy5⟩) (by assumption) ?hr5
  case hy5 => (intro w hSw; (try dsimp only at hSw); go_simp; try with_reducible rfl)
  (try simp only [Act.put, List.getElem_toArray, List.getElem_cons_zero, List.getElem_cons_succ, List.setIfInBounds_toArray, List.set_cons_zero, List.set_cons_succ])
  refine wpAnyH_take (i := 5) (v := ?hv6) rfl (by kernel_rfl) (by kernel_rfl) (by kernel_rfl) (fun _ _ _ h => h) (Or.inl ⟨by rfl, ?hy6⟩) (by assumption) ?hr6
  case hy6 => (intro w hSw; (try dsimp only at hSw); go_simp; try with_reducible rfl)
  (try simp only [Act.put, List.getElem_toArray, List.getElem_cons_zero, List.getElem_cons_succ, List.setIfInBounds_toArray, List.set_cons_zero, List.set_cons_succ])
  refine wpAnyH_take (i := 6) (v := ?hv7) rfl (by kernel_rfl) (by kernel_rfl) (by kernel_rfl) (fun _ _ _ h => h) (Or.inl ⟨by rfl, ?hy7⟩) (by assumption) ?hr7
  case hy7 => (intro w hSw; (try dsimp only at hSw); go_simp; try with_reducible rfl)
  (try simp only [Act.put, List.getElem_toArray, List.getElem_cons_zero, List.getElem_cons_succ, List.setIfInBounds_toArray, List.set_cons_zero, List.set_cons_succ])
  refine wpAnyH_take (i := 7) (v := ?hv8) rfl (by kernel_rfl) (by kernel_rfl) (by kernel_rfl) (fun _ _ _ h => h) (Or.inl ⟨by rfl, ?hy8⟩) (by assumption) ?hr8
  case hy8 => (intro w hSw; (try dsimp only at hSw); go_simp; try with_reducible rfl)
  (try simp only [Act.put, List.getElem_toArray, List.getElem_cons_zero, List.getElem_cons_succ, List.setIfInBounds_toArray, List.set_cons_zero, List.set_cons_succ])
  refine wpAnyH_take (i := 8) (v := ?hv9) rfl (by kernel_rfl) (by kernel_rfl) (by kernel_rfl) (fun _ _ _ h => h) (Or.inl ⟨by rfl, ?hy9⟩) (by assumption) ?hr9
  case hy9 => (intro w hSw; (try dsimp only at hSw); go_simp; try with_reducible rfl)
  (try simp only [Act.put, List.getElem_toArray, List.getElem_cons_zero, List.getElem_cons_succ, List.setIfInBounds_toArray, List.set_cons_zero, List.set_cons_succ])
  refine wpAnyH_ready (rs := [9]) (by kernel_rfl) (by decide) (AllReadyH.cons rfl (fun K hK => ?_) AllReadyH.nil)
  go_simp
  refine hK.out _ (sSet w3 w.heap.size 6 i ((i : Int) + (k : Int)) ⟨#[]⟩ 0 false).drew (sSet_farD HNE.out x0) (fun hHeld2 => ?_)
  clear hK K
  try simp only [List.setIfInBounds_toArray, List.set_cons_zero, List.set_cons_succ, Act.put]
  refine wpAnyH_take (i := 10) (v := ?hv10) rfl (by kernel_rfl) (by kernel_rfl) (by kernel_rfl) (fun _ _ _ h => h) (Or.inl ⟨by rfl, ?hy10⟩) (by assumption) ?hr10
  case hy10 => (intro w hSw; (try dsimp only at hSw); go_simp; try with_reducible rfl)
  (try simp only [Act.put, List.getElem_toArray, List.getElem_cons_zero, List.getElem_cons_succ, List.setIfInBounds_toArray, List.set_cons_zero, List.set_cons_succ])
  refine wpAnyH_take (i := 11) (v := ?hv11) rfl (by kernel_rfl) (by kernel_rfl) (by kernel_rfl) (fun _ _ _ h => h) (Or.inl ⟨by rfl, ?hy11⟩) (by assumption) ?hr11
  case hy11 => (intro w hSw; (try dsimp only at hSw); go_simp; try with_reducible rfl)
  (try simp only [Act.put, List.getElem_toArray, List.getElem_cons_zero, List.getElem_cons_succ, List.setIfInBounds_toArray, List.set_cons_zero, List.set_cons_succ])
  refine wpAnyH_done (by kernel_rfl) ?_ _
  have hbk := Blk.drew (sSet_blk (k := 6) (f := i) (t := (i : Int) + (k : Int)) (nm := ⟨#[]⟩) (z := 0) (sg := false) HK3.out)
  have hbl2 := Below.drew (sSet_below (k := 6) (f := i) (t := (i : Int) + (k : Int)) (nm := ⟨#[]⟩) (z := 0) (sg := false) (Nat.le_refl _) HW3.out)
  generalize (sSet w3 w.heap.size 6 i ((i : Int) + (k : Int)) ⟨#[]⟩ 0 false).drew = W at *
  have HBK := hid hbk
  have HBL := hid hbl2
  clear hHeld hHeld2 hbk hbl2 x0 y0 y1 y2 y3 y4 y5 yf
  go_wp2_with fail
  exact bodyPost_ret (results_row_tmp2 rfl _ _ w.heap.size _ _ _ _ rfl HBK.out Tryz.underlying29 rfl (by kernel_rfl)) rfl (retSp_of HSP.out rfl HBL.out)
theorem special_any (a : Option Addr) (n cap i : Nat) (s : ByteArray) (w : World) (hb : BA w a n cap s) (hm : n ≤ 1000000) (hi : i < n) (hmx : Mx w) :
    Calls Tryz.prog 65 #[.slice a n cap, .int .i64 i] w fun e w' => RetSp w e w' s i := by
  obtain ⟨b, off, rfl, _⟩ := hb.2.2.2 (by omega)
  by_cases h60 : byt s i = 60
  · exact special_tag b off n cap i s w hb hm hi hmx h60
  by_cases h38 : byt s i = 38
  · exact special_ent b off n cap i s w hb hm hi h38
  exact special_ansi b off n cap i s w hb hm hi h60 h38
set_option maxHeartbeats 1000000 in
theorem text_any (a : Option Addr) (n cap i : Nat) (s : ByteArray) (w : World) (hb : BA w a n cap s) (hm : n ≤ 1000000) (hi : i < n) (hmx : Mx w) :
    Calls Tryz.prog 66 #[.slice a n cap, .int .i64 i] w fun e w' => e = .returned (.int .i64 (textE s i)) ∧ Below w.heap.size w w' := by
  have HCL := hid (fun (W : World) (h : Below w.heap.size w W) (j : Nat) (hj : j < n) => special_any a n cap j s W (hb.below h (Nat.le_refl _)) hm hj (hmx.below h (Nat.le_refl _)))
  have HN := hid hb.1
  clear hb hmx
  go_enter Tryz.func66, Tryz.ntmps66
  go_wp2_with fail
  go_loopg [1] (n - i) (fun kx s1 wr => ∃ j : Nat, s1 = .int .i64 j ∧ j ≤ n ∧ n - j ≤ kx ∧ Hid (Below w.heap.size w wr) ∧ Hid (textE s i = scanTo (specB s) s.size j))
  case atStart => exact ⟨i + 1, by go_num, by omega, by omega, Below.refl _ _, rfl⟩
  case round =>
    obtain ⟨j, rfl, hj, hg, HB, HE⟩ := hrel
    by_cases hlt : j < n
    · have hlt' : (j : Int) < (n : Int) := by omega
      have HC := hid (HCL.out wr HB.out j hlt)
      cases hc : specB s j
      · have HE2 := hid (HE.out.trans (scanTo_step (by have := HN.out; omega) hc))
        have HCC := hid hc
        clear hc
        go_wp2_with fail
        refine HC.out.mono ?_
        rintro e2 w2 ⟨t, fo, rfl, _, hb2⟩
        have HB2 := hid (HB.out.trans (hb2.mono HB.out.size))
        rw [HCC.out]
        have HB3 := hid (HB2.out.alloc HB2.out.size (.cells (tkC t) 29))
        clear hb2
        unfold tkC at *
        go_wp2_with fail
        go_roundg (n - (j + 1))
        case measure => omega
        case rel => exact ⟨j + 1, by go_num, by omega, Nat.le_refl _, HB3, HE2⟩
      · have HE2 := hid (HE.out.trans (scanTo_stop (by have := HN.out; omega) hc))
        have HCC := hid hc
        clear hc
        go_wp2_with fail
        refine HC.out.mono ?_
        rintro e2 w2 ⟨t, fo, rfl, _, hb2⟩
        have HB2 := hid (HB.out.trans (hb2.mono HB.out.size))
        rw [HCC.out]
        have HB3 := hid (HB2.out.alloc HB2.out.size (.cells (tkC t) 29))
        clear hb2
        unfold tkC at *
        go_wp2_with fail
        go_ret
        exact ⟨ret_int (by rw [HE2.out]), HB3.out⟩
    · have hlt' : ¬ (j : Int) < (n : Int) := by omega
      obtain rfl : j = n := by omega
      have HE2 := hid (HE.out.trans (scanTo_end (by have := HN.out; omega)))
      clear hlt hg
      go_wp2_with fail
      go_ret
      exact ⟨ret_int (by rw [HE2.out]), HB.out⟩
end Go.Proofs.YtpnbkecchfhimaaGreatDoor

/- out of AppK -/
namespace Go.Proofs.YtpnbkecchfhimaaGreatDoor
open Go.RowKit
set_option linter.unusedVariables false
section
variable {P : Program} (w : World)
/-- The first k cells of each block of cells of a type stay. -/
def HeadK (e : TypeId) (k : Nat) (A B : World) : Prop := ∀ (q : Nat) (cs : Array Value) (fr : Nat × Nat), A.heap[q]? = some (.cells cs e fr) → ∃ (cs' : Array Value) (fr' : Nat × Nat), B.heap[q]? = some (.cells cs' e fr') ∧ ∀ j, j < k → cs'[j]? = cs[j]?
theorem HeadK.refl (e : TypeId) (k : Nat) (A : World) : HeadK e k A A := fun q cs fr h => ⟨cs, fr, h, fun _ _ => rfl⟩
theorem HeadK.trans {e : TypeId} {k : Nat} {A B C : World} (h : HeadK e k A B) (g : HeadK e k B C) : HeadK e k A C := fun q cs fr hq => by
  obtain ⟨cs1, fr1, h1, h2⟩ := h q cs fr hq
  obtain ⟨cs2, fr2, h3, h4⟩ := g q cs1 fr1 h1
  exact ⟨cs2, fr2, h3, fun j hj => (h4 j hj).trans (h2 j hj)⟩
theorem HeadK.of_below {e : TypeId} {k : Nat} {A B : World} (h : Below A.heap.size A B) : HeadK e k A B := fun q cs fr hq => ⟨cs, fr, (h.block q (Array.getElem?_eq_some_iff.1 hq).1).trans hq, fun _ _ => rfl⟩
theorem HeadK.of_grown {e : TypeId} {k : Nat} {A B : World} (h : A.grownBy B none) : HeadK e k A B := fun q cs fr hq => ⟨cs, fr, (h.block q (Array.getElem?_eq_some_iff.1 hq).1 (fun e => by cases e)).trans hq, fun _ _ => rfl⟩
theorem HeadK.set_far {e : TypeId} {k : Nat} (W : World) (p : Addr) (v : Value) (t : TypeId) (cs : Array Value) (h : Blk W p.block t cs) (hne : t ≠ e) : HeadK e k W (W.setCell p v) := fun q c2 fr hq => by
  refine ⟨c2, fr, (Below.heap_setCell W p v q (fun eq => ?_)).trans hq, fun _ _ => rfl⟩
  subst eq
  unfold Blk at h
  rw [h] at hq
  injection hq with hq
  injection hq with _ h2
  exact hne h2
theorem run_append_keep (base : Nat) (t ty e : TypeId) (i : TypeInfo) (z : Value) (size bytes : Nat) (ht : P.underlying t = some (.slice e)) (hi : P.info? e = some i) (hz : i.zero = some z)
    (hsize : i.size = size) (hby : i.bytes = bytes) (hzs : z.cells.size = size) (hsz : 0 < size)
    (v : Value) (n : Nat) (xs : List Value) (hown : w.ownsRow base e size v n xs)
    (a : Addr) (m c : Nat) (news : List Value) (hl : news.length = m * size) (hnews : ∀ j u, news[j]? = some u → w.cell? (a.add j) = some u) (h1 : ∀ u ∈ news, u.oneCell' = true)
    (h63 : n + m ≤ maxLen) (hbytes : (n + m) * bytes ≤ 140737488355328) (hbase : base ≤ w.heap.size) (hn0 : v = .slice none 0 0 ↔ n = 0) :
    ∃ v' w', (Builtin.append_ #[t, t] ty #[v, .slice (some a) m c]).run P w = .ok v' w' ∧ w'.ownsRow base e size v' (n + m) (xs ++ news) ∧ w.grownBy w' v.ownBlock ∧
      (v' = .slice none 0 0 ↔ v = .slice none 0 0 ∧ m = 0) ∧ HeadK e size w w' := by
  obtain ⟨v', w', hr, h2, h3, h4, h5⟩ := run_append_own_at (P := P) w base t ty e i z size bytes ht hi hz hsize hby hzs hsz v n xs hown a m c news hl hnews h1 h63 hbytes hbase
  refine ⟨v', w', hr, h2, h3, h4, ?_⟩
  subst hsize
  subst hby
  have hsmall : n + m ≤ 9223372036854775807 := by simp only [maxLen] at h63; omega
  rcases hown.2 with ⟨rfl, rfl⟩ | ⟨g, cap, cur, rfl, hbg, hg, hnc, hcm, hcs, htake⟩
  · exact HeadK.of_grown h3
  · have hgl : g < w.heap.size := (Array.getElem?_eq_some_iff.1 hg).1
    by_cases hroom : n + m ≤ cap
    · have hn1 : 1 ≤ n := by
        rcases Nat.eq_zero_or_pos n with h0 | h0
        · have := hn0.2 h0
          cases this
        · exact h0
      have hfit : n * i.size + news.length ≤ cur.size := by rw [hl, hcs, ← Nat.add_mul]; exact Nat.mul_le_mul_right _ hroom
      have hr2 := run_append_room (P := P) w t ty e i ht hi g n cap cur hg a m c news hl hnews h1 hroom hfit
      rw [hr2] at hr
      injection hr with e1 e2
      subst e1
      rcases h2.2 with ⟨h, _⟩ | ⟨g2, cap2, cur2, e3, _, hg2, _, _, _, htake2⟩
      · cases h
      injection e3 with e3
      injection e3 with e3
      injection e3 with e3 _ _
      subst e3
      intro q cs fr hq
      by_cases hqg : q = g
      · subst hqg
        rw [hg] at hq
        injection hq with hq
        injection hq with q1 q2 q3
        subst q1
        refine ⟨cur2, (0, 0), hg2, fun j hj => ?_⟩
        have hjn : j < n * i.size := Nat.lt_of_lt_of_le hj (Nat.le_mul_of_pos_left _ hn1)
        have t1 : cur.toList[j]? = xs[j]? := by rw [← htake, List.getElem?_take, if_pos hjn]
        have hxl := hown.1
        have t2 : cur2.toList[j]? = xs[j]? := by
          have := congrArg (fun l => l[j]?) htake2
          simp only [List.getElem?_take] at this
          rw [if_pos (by rw [Nat.add_mul]; omega), List.getElem?_append_left (by omega)] at this
          exact this
        simpa using t2.trans t1.symm
      · exact ⟨cs, fr, (h3.block q (Array.getElem?_eq_some_iff.1 hq).1 (fun e => hqg (by simpa [Value.ownBlock] using e))).trans hq, fun _ _ => rfl⟩
    · have holds : ∀ j u, xs[j]? = some u → w.cell? ((⟨g, 0, none⟩ : Addr).add j) = some u := hown.cells (g := g) rfl
      have hr2 := run_append_grow (P := P) w t ty e i z ht hi hz ⟨g, 0, none⟩ n cap xs hown.1 holds a m c news hl hnews (by omega) (by omega) (growslice_fits (by omega) hbytes)
      rw [hr2] at hr
      injection hr with e1 e2
      subst e2
      exact HeadK.of_grown ⟨rfl, rfl, rfl, by simp, fun k hk _ => Below.heap_alloc w.drew _ k hk⟩
theorem wpListIn_append_keep {F : Fence} {nF : Nat} {ops : Array Oper} {rest : List Oper} {o : Oper} {a : Act} {Q : Exit → Act → World → Prop} (hgd : o.guard = none) (s x : Operand) (t : TypeId)
    (ho : o.op = .call { callee := .builtin .append, args := #[s, x], argTypes := #[t, t] })
    (base : Nat) (e : TypeId) (i : TypeInfo) (z : Value) (size bytes : Nat) (ht : P.underlying t = some (.slice e)) (hi : P.info? e = some i) (hz : i.zero = some z)
    (hsize : i.size = size) (hby : i.bytes = bytes) (hzs : z.cells.size = size) (hsz : 0 < size)
    (v : Value) (n : Nat) (xs : List Value) (hs : a.eval s = v) (hown : w.ownsRow base e size v n xs)
    (ad : Addr) (m c : Nat) (news : List Value) (hx : a.eval x = .slice (some ad) m c) (hl : news.length = m * size) (hnews : ∀ j u, news[j]? = some u → w.cell? (ad.add j) = some u) (h1 : ∀ u ∈ news, u.oneCell' = true)
    (h63 : n + m ≤ maxLen) (hbytes : (n + m) * bytes ≤ 140737488355328) (hbase : base ≤ w.heap.size) (hn0 : v = .slice none 0 0 ↔ n = 0)
    (h : ∀ v' w', w'.ownsRow base e size v' (n + m) (xs ++ news) → w.grownBy w' v.ownBlock → (v' = .slice none 0 0 ↔ v = .slice none 0 0 ∧ m = 0) → HeadK e size w w' → wpListIn F nF P ops Q rest (a.put o.dst v') w') :
    wpListIn F nF P ops Q (o :: rest) a w := by
  refine wpListIn_plain hgd fun K hK => ?_
  obtain ⟨v', w', hr, h2, h3, h4, h5⟩ := run_append_keep (P := P) w base t o.type e i z size bytes ht hi hz hsize hby hzs hsz v n xs hown ad m c news hl hnews h1 h63 hbytes hbase hn0
  unfold Oper.wpIn
  refine ⟨by simp [Oper.about, ho, resolve, Target.leads, Sem.run_pure], ?_⟩
  rw [Oper.semAt_plain F _ _ (by rw [ho]; intro c hc'; cases hc')]
  simp [execOp, ho, resolve, invoke, builtin, hs, hx, hr, Result.andThen]
  exact hK _ _ (h v' w' h2 h3 h4 h5)
end
end Go.Proofs.YtpnbkecchfhimaaGreatDoor

/- out of TkE -/
namespace Go.Proofs.YtpnbkecchfhimaaGreatDoor
open Go.RowKit Go.Shelf
open Go.Lib (hid)
attribute [local go_sem] Oper.semAt_some
set_option linter.unusedVariables false
set_option maxRecDepth 100000

/-- A token of these bytes. -/
abbrev TkOf (s : ByteArray) := { t : Tk // t ∈ toks s }
def encTk (t : Tk) : Value := .agg (tkC t)
def encsTk (s : ByteArray) (x : TkOf s) : Array Value := #[encTk x.1]
theorem subTk_ext {L : List Tk} : ∀ (xs ys : List { p : Tk // p ∈ L }), xs.map (·.1) = ys.map (·.1) → xs = ys
  | [], [], _ => rfl
  | [], _ :: _, h => by simp at h
  | _ :: _, [], h => by simp at h
  | x :: xs, y :: ys, h => by
    simp only [List.map_cons, List.cons.injEq] at h
    rw [subTk_ext xs ys h.2, Subtype.ext h.1]
theorem HeadK.putObj {e : TypeId} {k : Nat} (W : World) (l : Nat) (o o' : Obj) (h : W.heap[l]? = some o) (h1 : o.isCells = false) : HeadK e k W (W.putObj l o') := fun q cs fr hq => by
  refine ⟨cs, fr, (World.putObj_heap_other (fun e => ?_)).trans hq, fun _ _ => rfl⟩
  subst e
  rw [h] at hq
  injection hq with hq
  rw [hq] at h1
  cases h1
/-- What a round keeps: what lay below n₀; the iterator's own box; each token's cells. -/
def KpT (n₀ Bn : Nat) (A B : World) : Prop := Below n₀ A B ∧ B.heap[Bn]? = A.heap[Bn]? ∧ HeadK 29 6 A B
theorem KpT.refl (n₀ Bn : Nat) (A : World) : KpT n₀ Bn A A := ⟨Below.refl _ _, rfl, HeadK.refl _ _ _⟩
theorem KpT.trans {n₀ Bn : Nat} {A B C : World} (h : KpT n₀ Bn A B) (k : KpT n₀ Bn B C) : KpT n₀ Bn A C := ⟨h.1.trans k.1, k.2.1.trans h.2.1, h.2.2.trans k.2.2⟩
theorem KpT.of_below {n₀ Bn : Nat} {A B : World} (h : Below A.heap.size A B) (h0 : n₀ ≤ A.heap.size) (h1 : Bn < A.heap.size) : KpT n₀ Bn A B := ⟨h.mono h0, h.block Bn h1, HeadK.of_below h⟩
theorem KpT.putObj {n₀ Bn : Nat} {w : World} (hn : n₀ ≤ w.heap.size) (hB : Bn < w.heap.size) (W : World) (l : Nat) (o o' : Obj) (hl : w.heap.size ≤ l) (h : W.heap[l]? = some o) (h1 : o.isCells = false) (h2 : o.isWalk = false) : KpT n₀ Bn W (W.putObj l o') :=
  ⟨belowK_b hn W l o o' hl h h1 h2, World.putObj_heap_other (by omega), HeadK.putObj W l o o' h h1⟩
/-- A token's cells behind a round. -/
theorem KpT.tok {n₀ Bn : Nat} {A B : World} (h : KpT n₀ Bn A B) {q : Nat} {t : Tk} (hq : Blk A q 29 (tkC t)) : q < B.heap.size ∧ ∀ j, j < 6 → B.cell? ⟨q, j, none⟩ = (tkC t)[j]? := by
  obtain ⟨cs, fr, h1, h2⟩ := h.2.2 q _ _ hq
  exact ⟨(Array.getElem?_eq_some_iff.1 h1).1, fun j hj => (cell_of_row _ _ _ _ _ _ h1).trans (h2 j hj)⟩
theorem tokens_any (v : Value) (a : Option Addr) (len cap : Nat) (hv : v = .slice a len cap) (w : World) : Calls Tryz.prog 38 #[v] w fun e w' => e = .returned (.func (.func 64) #[] #[.pointer (some ⟨w.heap.size, 0, none⟩)]) ∧ w' = w.alloc (.cells #[v] 22) := by
  subst hv
  go_enter Tryz.func38, Tryz.ntmps38
  go_wp2
  go_ret
  exact ⟨rfl, rfl⟩
theorem pre_of {s : ByteArray} {pre : List (TkOf s)} {x : TkOf s} {L : List Tk} (h : (pre ++ [x]).map (·.1) ++ L = toks s) : (pre ++ [x]) <+: (toks s).attach := by
  refine ⟨(toks s).attach.drop (pre.length + 1), subTk_ext _ _ ?_⟩
  have e1 : ((toks s).attach.drop (pre.length + 1)).map (·.1) = (toks s).drop (pre.length + 1) := by rw [List.map_drop]; simp
  rw [List.map_append, e1]
  have e2 : (toks s).attach.map (·.1) = toks s := by simp
  rw [e2]
  conv => rhs; rw [← h]
  congr 1
  rw [← h]
  rw [List.drop_append_of_le_length (by simp)]
  simp
theorem sSetT_blk {w : World} {r : Nat} {t0 : Tk} {k f t : Int} {nm : ByteArray} {z : Int} {sg : Bool} (h : Blk w r 29 (tkC t0)) : Blk (sSet w r k f t nm z sg) r 29 #[.int .i64 k, .int .i64 f, .int .i64 t, .string nm, .int .i32 z, .bool sg] := by
  have := (((((h.set_ 0 (.int .i64 k)).set_ 1 (.int .i64 f)).set_ 2 (.int .i64 t)).set_ 3 (.string nm)).set_ 4 (.int .i32 z)).set_ 5 (.bool sg)
  unfold sSet
  simpa [tkC] using this
theorem stpT_len (s : ByteArray) (i : Nat) : 1 ≤ (stpT s i).1.length := by
  unfold stpT
  split
  · exact Nat.le_refl _
  · split
    · show 1 ≤ 2; decide
    · exact Nat.le_refl _
set_option maxHeartbeats 16000000 in
theorem tokens1_in (n : Nat) (l Bn n₀ : Nat) (a : Option Addr) (len cap : Nat) (s : ByteArray) (J Jx : List (TkOf s) → World → Prop)
    (hY : ∀ pre x W, J pre W → pre.length < (toks s).length → YieldAt Fence.wide (n - 1) Tryz.prog l (encsTk s x) W fun e W' =>
      (e = .returned (.bool true) ∧ J (pre ++ [x]) W' ∧ KpT n₀ Bn W W') ∨ (e = .returned (.bool false) ∧ Jx (pre ++ [x]) W'))
    (W : World) (hJ : ∀ s A B, J s A → Below A.heap.size A B → J s B) (hn0 : n₀ ≤ W.heap.size) (hBl : Bn < W.heap.size) (hBn : W.cell? ⟨Bn, 0, none⟩ = some (.slice a len cap)) (hlen : len = s.size) (hm : len ≤ 1000000)
    (hBA : ∀ A, Below n₀ W A → BA A a len cap s ∧ Mx A) (h0 : J [] W) :
    CallsIn Fence.wide n Tryz.prog 64 #[.func (.yield l) #[] #[], .pointer (some ⟨Bn, 0, none⟩)] W fun e W' => (∃ v, e = .returned v) ∧
      ((∃ ys, ys = (toks s).attach ∧ J ys W') ∨ (∃ pre, pre <+: (toks s).attach ∧ Jx pre W')) := by
  have HLN := hid hlen
  have HJ := hid hJ
  have HY := hid hY
  have H0 := hid h0
  have HBA := hid hBA
  have hcap : len ≤ cap := (hBA W (Below.refl _ _)).1.2.1
  clear hJ hY h0 hBA hlen
  refine callsIn_of_wp Tryz.func64 rfl trivial ?_ rfl
  simp only [Tryz.ntmps64, List.size_toArray, List.length_cons, List.length_nil, Nat.reduceAdd, Nat.reduceSub, Array.replicate_succ, Array.replicate_zero, List.push_toArray, List.append_toArray, List.nil_append, List.cons_append]
  gi_wp2
  gi_loopw [3] (fun s3 wr => ∃ (i : Nat) (pre : List (TkOf s)), s3 = .int .i64 i ∧ i ≤ len ∧ Hid (pre.map (·.1) ++ toksAt s i = toks s) ∧ Hid (J pre wr) ∧ Hid (Below n₀ W wr) ∧ Hid (wr.heap[Bn]? = W.heap[Bn]?))
    (fun s3 _ => len - (intOf s3).toNat)
  case atStart =>
    exact ⟨0, [], rfl, Nat.zero_le _, rfl, H0.out, Below.refl _ _, rfl⟩
  case round =>
    obtain ⟨i, pre, rfl, hi, HP, HJ1, HB, HBN⟩ := hrel
    have hc : wr.cell? ⟨Bn, 0, none⟩ = some (.slice a len cap) := (World.cell?_of_block (w := W) (a := ⟨Bn, 0, none⟩) HBN.out).trans hBn
    by_cases hlt : i < len
    · have hlt' : (i : Int) < (len : Int) := by omega
      have hil : i < s.size := by rw [← HLN.out]; exact hlt
      obtain ⟨hba, hmx⟩ := HBA.out wr HB.out
      have HRD := hid (special_any a len cap i s wr hba hm hlt hmx)
      have hws := HB.out.size
      have hwn0 : n₀ ≤ wr.heap.size := by omega
      have hwbl : Bn < wr.heap.size := by omega
      clear hba hmx
      gi_wp2_with fail
      refine ⟨trivial, (fun h => by cases h), (callsIn_wide.2 HRD.out).mono ?_⟩
      rintro e w2 ⟨t, fo, rfl, hsp, hb2⟩
      have HSP := hid hsp
      have HB2 := hid hb2
      have hs2 := hb2.size
      have hc2 : w2.cell? ⟨Bn, 0, none⟩ = some (.slice a len cap) := (hb2.cell (p := ⟨Bn, 0, none⟩) hwbl).trans hc
      have HB3 := hid (hb2.alloc hs2 (.cells (tkC t) 29))
      have HK3 := hid (Blk.new w2 29 (tkC t))
      have hc3 : (w2.alloc (.cells (tkC t) 29)).cell? ⟨Bn, 0, none⟩ = some (.slice a len cap) := (HB3.out.cell (p := ⟨Bn, 0, none⟩) hwbl).trans hc
      clear hsp hb2 hc hc2 HRD
      have hplen : pre.length < (toks s).length := by
        rw [← HP.out, toksAt_step hil]
        have := stpT_len s i
        simp
        omega
      have HPL := hid hplen
      clear hplen
      cases hs : specA s i with
      | none =>
        have hsb : specB s i = false := by unfold specB; rw [hs]; rfl
        have hst := toksAt_text hil hs
        obtain ⟨hba3, hmx3⟩ := HBA.out _ (HB.out.trans (HB3.out.mono hwn0))
        have HT := hid (text_any a len cap i s _ hba3 hm hlt hmx3)
        have htb : i < textE s i ∧ textE s i ≤ len := by
          have h1 := scanTo_ge (specB s) s.size (i + 1)
          have h2 := scanTo_le (specB s) (n := s.size) (i := i + 1) (by omega)
          have := HLN.out
          unfold textE
          omega
        generalize textE s i = k at *
        rw [hsb]
        have hmem : textTk i k ∈ toks s := by rw [← HP.out, hst]; simp
        have HP2 : Hid ((pre ++ [(⟨textTk i k, hmem⟩ : TkOf s)]).map (·.1) ++ toksAt s k = toks s) := by
          refine Eq.trans ?_ HP.out
          rw [hst]; simp
        clear hs hsb hba3 hmx3 hst HP HSP
        simp only [tkC] at hc3
        unfold tkC
        gi_wp2_with fail
        refine ⟨trivial, (fun h => by cases h), (callsIn_wide.2 HT.out).mono ?_⟩
        rintro e w4 ⟨rfl, hb4⟩
        have hk4 := HK3.out.below hb4 HK3.out.lt
        have y0 := hk4.cell 0
        have y1 := hk4.cell 1
        have y2 := hk4.cell 2
        have y3 := hk4.cell 3
        have y4 := hk4.cell 4
        have y5 := hk4.cell 5
        have yf := hk4.frozen
        simp only [tkC, List.getElem?_toArray, List.getElem?_cons_zero, List.getElem?_cons_succ] at y0 y1 y2 y3 y4 y5
        have HB5 := hid (sSet_below (k := 0) (f := i) (t := k) (nm := ⟨#[]⟩) (z := 0) (sg := false) hs2 (HB3.out.trans (hb4.mono HB3.out.size)))
        have HK5 := hid (sSetT_blk (k := 0) (f := i) (t := k) (nm := ⟨#[]⟩) (z := 0) (sg := false) hk4)
        clear hk4 hb4 hc3
        gi_upto_region 5 with fail
        change Code.wpIn _ _ _ _ _ _ (sSet w4 w2.heap.size 0 i k ⟨#[]⟩ 0 false)
        generalize sSet w4 w2.heap.size 0 i k ⟨#[]⟩ 0 false = w5 at *
        clear y0 y1 y2 y3 y4 y5 yf
        have y0 := HK5.out.cell 0
        have y1 := HK5.out.cell 1
        have y2 := HK5.out.cell 2
        have y3 := HK5.out.cell 3
        have y4 := HK5.out.cell 4
        have y5 := HK5.out.cell 5
        have yf := HK5.out.frozen
        simp only [List.getElem?_toArray, List.getElem?_cons_zero, List.getElem?_cons_succ] at y0 y1 y2 y3 y4 y5
        obtain ⟨fn, tmps, assign, body, hy, hR⟩ := HY.out pre ⟨textTk i k, hmem⟩ w5 (HJ.out _ _ _ HJ1.out HB5.out) HPL.out
        simp only [encsTk, encTk, tkC, textTk, noB] at hy
        gi_wp2
        refine ⟨(fun h => by cases h), hR.mono ?_⟩
        have hs5 := HB5.out.size
        rintro e W3 (⟨rfl, hJ3, hk3⟩ | ⟨rfl, hJx3⟩)
        · have HJ3 := hid hJ3
          have HK3 := hid hk3
          obtain ⟨hql, hqc⟩ := hk3.tok (t := textTk i k) HK5.out
          have z2 : W3.cell? ⟨w2.heap.size, 2, none⟩ = some (.int .i64 (k : Int)) := hqc 2 (by decide)
          clear hJ3 hk3 hqc y0 y1 y2 y3 y4 y5 yf
          gi_wp2
          go_roundw
          case rel => exact ⟨k, _, rfl, htb.2, HP2, HJ3.out, HB.out.trans ((HB5.out.mono hwn0).trans HK3.out.1), HK3.out.2.1.trans ((HB5.out.block Bn hwbl).trans HBN.out)⟩
          case measure => simp [intOf]; omega
        · have HJX3 := hid hJx3
          clear hJx3
          gi_wp2
          refine bodyPost_ret (results_none rfl _ _ _) rfl ?_
          exact ⟨⟨_, rfl⟩, .inr ⟨_, pre_of HP2.out, HJX3.out⟩⟩
      | some sp =>
        have hsb : specB s i = true := by unfold specB; rw [hs]; rfl
        obtain ⟨rfl, rfl⟩ := HSP.out sp hs
        have hbd := specA_bd hs
        have hmem : spTk i sp ∈ toks s := by
          rw [← HP.out, toksAt_step hil]
          unfold stpT
          rw [hs]
          simp only
          split <;> simp
        rw [hsb]
        obtain ⟨e, he⟩ : ∃ e, e = i + sp.size := ⟨_, rfl⟩
        have hee : e ≤ len := by have := HLN.out; omega
        have hie : i < e := by omega
        cases hraw : sp.raw
        · -- nothing raw behind it
          have HP2 : Hid ((pre ++ [(⟨spTk i sp, hmem⟩ : TkOf s)]).map (·.1) ++ toksAt s e = toks s) := by
            refine Eq.trans ?_ HP.out
            rw [toksAt_spec hil hs (fun h => by rw [hraw] at h; exact absurd h.1 (by decide)), he]; simp
          obtain ⟨kd, sz, nm, r, sg, rw_⟩ := sp
          simp only at hraw he
          subst hraw
          simp only [tkC, spTk] at hc3 HB3 HK3
          rw [← he] at HB3 HK3 hc3
          clear hs hsb hbd HSP
          unfold tkC spTk
          simp only
          rw [← he]
          have HE := hid he
          clear he
          gi_upto_region 5 with fail
          generalize w2.alloc (.cells #[.int .i64 kd, .int .i64 i, .int .i64 e, .string nm, .int .i32 r, .bool sg] 29) = w5 at *
          have y0 := HK3.out.cell 0
          have y1 := HK3.out.cell 1
          have y2 := HK3.out.cell 2
          have y3 := HK3.out.cell 3
          have y4 := HK3.out.cell 4
          have y5 := HK3.out.cell 5
          have yf := HK3.out.frozen
          simp only [List.getElem?_toArray, List.getElem?_cons_zero, List.getElem?_cons_succ] at y0 y1 y2 y3 y4 y5
          obtain ⟨fn, tmps, assign, body, hy, hR⟩ := HY.out pre ⟨spTk i ⟨kd, sz, nm, r, sg, false⟩, hmem⟩ w5 (HJ.out _ _ _ HJ1.out HB3.out) HPL.out
          simp only [encsTk, encTk, tkC, spTk] at hy
          rw [← HE.out] at hy
          gi_wp2
          refine ⟨(fun h => by cases h), hR.mono ?_⟩
          rintro e2 W3 (⟨rfl, hJ3, hk3⟩ | ⟨rfl, hJx3⟩)
          · have HJ3 := hid hJ3
            have HK4 := hid hk3
            obtain ⟨hql, hqc⟩ := hk3.tok (t := ⟨kd, i, e, nm, r, sg⟩) HK3.out
            have z2 : W3.cell? ⟨w2.heap.size, 2, none⟩ = some (.int .i64 (e : Int)) := hqc 2 (by decide)
            clear hJ3 hk3 hqc y0 y1 y2 y3 y4 y5 yf
            gi_wp2
            go_roundw
            case rel => exact ⟨e, _, rfl, hee, HP2, HJ3.out, HB.out.trans ((HB3.out.mono hwn0).trans HK4.out.1), HK4.out.2.1.trans ((HB3.out.block Bn hwbl).trans HBN.out)⟩
            case measure => simp [intOf]; omega
          · have HJX3 := hid hJx3
            clear hJx3
            gi_wp2
            refine bodyPost_ret (results_none rfl _ _ _) rfl ?_
            exact ⟨⟨_, rfl⟩, .inr ⟨_, pre_of HP2.out, HJX3.out⟩⟩
        · -- raw bytes may follow
          have hnm := (specA_raw hs hraw).2
          have hns : 0 < sp.name.size ∧ sp.name.size ≤ 1000000 := by rcases hnm with h | h <;> rw [h] <;> decide
          obtain ⟨re, hre⟩ : ∃ re, re = rawE s sp.name e := ⟨_, rfl⟩
          have hrb : e ≤ re ∧ re ≤ len := by
            have h1 := scanTo_ge (closesB s sp.name) s.size e
            have h2 := scanTo_le (closesB s sp.name) (n := s.size) (i := e) (by have := HLN.out; omega)
            have := HLN.out
            rw [hre]
            unfold rawE
            omega
          have hto : toksAt s i = if e < re then spTk i sp :: rawTk e re :: toksAt s re else spTk i sp :: toksAt s e := by
            rw [hre, he]
            split
            · rename_i h
              exact toksAt_raw hil hs ⟨hraw, h⟩
            · rename_i h
              exact toksAt_spec hil hs (fun k => h k.2)
          have HPP := hid HP.out
          rw [hto] at HPP
          have HRE := hid hre
          obtain ⟨kd, sz, nm, r, sg, rw_⟩ := sp
          simp only at hraw he hns HRE hre
          subst hraw
          simp only [tkC, spTk] at hc3 HB3 HK3 HPP
          have HE := hid he
          rw [← he] at HB3 HK3 hc3 HPP
          clear hs hsb hbd HSP hto hnm HP
          unfold tkC spTk
          simp only
          rw [← he]
          clear hre he
          gi_upto_region 5 with fail
          generalize w2.alloc (.cells #[.int .i64 kd, .int .i64 i, .int .i64 e, .string nm, .int .i32 r, .bool sg] 29) = w5 at *
          have y0 := HK3.out.cell 0
          have y1 := HK3.out.cell 1
          have y2 := HK3.out.cell 2
          have y3 := HK3.out.cell 3
          have y4 := HK3.out.cell 4
          have y5 := HK3.out.cell 5
          have yf := HK3.out.frozen
          simp only [List.getElem?_toArray, List.getElem?_cons_zero, List.getElem?_cons_succ] at y0 y1 y2 y3 y4 y5
          obtain ⟨fn, tmps, assign, body, hy, hR⟩ := HY.out pre ⟨spTk i ⟨kd, sz, nm, r, sg, true⟩, hmem⟩ w5 (HJ.out _ _ _ HJ1.out HB3.out) HPL.out
          simp only [encsTk, encTk, tkC, spTk] at hy
          rw [← HE.out] at hy
          gi_wp2
          refine ⟨(fun h => by cases h), hR.mono ?_⟩
          rintro e2 W3 (⟨rfl, hJ3, hk3⟩ | ⟨rfl, hJx3⟩)
          · have HJ3 := hid hJ3
            have HK4 := hid hk3
            obtain ⟨hql, hqc⟩ := hk3.tok (t := ⟨kd, i, e, nm, r, sg⟩) HK3.out
            have z2 : W3.cell? ⟨w2.heap.size, 2, none⟩ = some (.int .i64 (e : Int)) := hqc 2 (by decide)
            have z3 : W3.cell? ⟨w2.heap.size, 3, none⟩ = some (.string nm) := hqc 3 (by decide)
            have HB6 := hid (HB.out.trans ((HB3.out.mono hwn0).trans HK4.out.1))
            have HBN6 := hid (HK4.out.2.1.trans ((HB3.out.block Bn hwbl).trans HBN.out))
            have hc6 : W3.cell? ⟨Bn, 0, none⟩ = some (.slice a len cap) := (World.cell?_of_block (w := W) (a := ⟨Bn, 0, none⟩) HBN6.out).trans hBn
            obtain ⟨hba6, hmx6⟩ := HBA.out W3 HB6.out
            have HRW := hid (raw_any a len cap e s nm W3 hba6 hm hee hns.1 hns.2)
            rw [← HRE.out] at HRW
            have hs6 := HB6.out.size
            have hw6 : n₀ ≤ W3.heap.size := by omega
            have hb6 : Bn < W3.heap.size := by
              have := World.block_lt_of_cell? _ _ hc6
              exact this
            have HPQ := hid ((fun h => by
              have h0 := HPP.out
              rw [if_neg h] at h0
              refine Eq.trans ?_ h0
              rw [List.map_append]
              simp [spTk, HE.out]) : ¬ e < re → (pre ++ [(⟨spTk i ⟨kd, sz, nm, r, sg, true⟩, hmem⟩ : TkOf s)]).map (·.1) ++ toksAt s e = toks s)
            have HPR := hid ((fun h => by
              have h0 := HPP.out
              rw [if_pos h] at h0
              refine Eq.trans ?_ h0
              rw [List.map_append]
              simp [spTk, HE.out]) : e < re → (pre ++ [(⟨spTk i ⟨kd, sz, nm, r, sg, true⟩, hmem⟩ : TkOf s)]).map (·.1) ++ rawTk e re :: toksAt s re = toks s)
            clear hJ3 hk3 hqc y0 y1 y2 y3 y4 y5 yf hba6 hmx6 hc3
            gi_wp2_with fail
            refine ⟨trivial, (fun h => by cases h), (callsIn_wide.2 HRW.out).mono ?_⟩
            rintro e w7 ⟨rfl, hb7⟩
            have HB7 := hid hb7
            have hs7 := hb7.size
            clear hb7
            by_cases hlr : e < re
            · have hlr' : (e : Int) < (re : Int) := by omega
              have hpr := HPR.out hlr
              have hmem2 : rawTk e re ∈ toks s := by rw [← hpr]; simp
              have HP3 : Hid (((pre ++ [(⟨spTk i ⟨kd, sz, nm, r, sg, true⟩, hmem⟩ : TkOf s)]) ++ [(⟨rawTk e re, hmem2⟩ : TkOf s)]).map (·.1) ++ toksAt s re = toks s) := by
                refine Eq.trans ?_ hpr
                rw [List.map_append, List.map_append]
                simp
              have hpl2 : (pre ++ [(⟨spTk i ⟨kd, sz, nm, r, sg, true⟩, hmem⟩ : TkOf s)]).length < (toks s).length := by
                have hq := congrArg List.length hpr
                rw [List.length_append, List.length_map, List.length_cons] at hq
                omega
              clear hpr
              obtain ⟨fn, tmps, assign, body, hy, hR⟩ := HY.out _ ⟨rawTk e re, hmem2⟩ w7 (HJ.out _ _ _ HJ3.out HB7.out) hpl2
              simp only [encsTk, encTk, tkC, rawTk, noB] at hy
              clear hpl2
              gi_wp2
              refine ⟨(fun h => by cases h), hR.mono ?_⟩
              rintro e2 W8 (⟨rfl, hJ8, hk8⟩ | ⟨rfl, hJx3⟩)
              · have HJ8 := hid hJ8
                have HK8 := hid hk8
                clear hJ8 hk8
                gi_wp2
                go_roundw
                case rel => exact ⟨re, _, rfl, hrb.2, HP3, HJ8.out, HB6.out.trans ((HB7.out.mono hw6).trans HK8.out.1), HK8.out.2.1.trans ((HB7.out.block Bn hb6).trans HBN6.out)⟩
                case measure => simp [intOf]; omega
              · have HJX3 := hid hJx3
                clear hJx3
                gi_wp2
                refine bodyPost_ret (results_none rfl _ _ _) rfl ?_
                exact ⟨⟨_, rfl⟩, .inr ⟨_, pre_of HP3.out, HJX3.out⟩⟩
            · have hlr' : ¬ (e : Int) < (re : Int) := by omega
              have HP3 := hid (HPQ.out hlr)
              gi_wp2
              go_roundw
              case rel => exact ⟨e, _, rfl, hee, HP3, HJ.out _ _ _ HJ3.out HB7.out, HB6.out.trans (HB7.out.mono hw6), (HB7.out.block Bn hb6).trans HBN6.out⟩
              case measure => simp [intOf]; omega
          · have HP2 : Hid (∃ L, (pre ++ [(⟨spTk i ⟨kd, sz, nm, r, sg, true⟩, hmem⟩ : TkOf s)]).map (·.1) ++ L = toks s) := by
              have h0 := HPP.out
              split at h0
              · exact ⟨rawTk e re :: toksAt s re, by
                  refine Eq.trans ?_ h0
                  rw [List.map_append]
                  simp [spTk, HE.out]⟩
              · exact ⟨toksAt s e, by
                  refine Eq.trans ?_ h0
                  rw [List.map_append]
                  simp [spTk, HE.out]⟩
            have HJX3 := hid hJx3
            clear hJx3
            gi_wp2
            refine bodyPost_ret (results_none rfl _ _ _) rfl ?_
            exact ⟨⟨_, rfl⟩, .inr ⟨_, (by obtain ⟨L, hL⟩ := HP2.out; exact pre_of hL), HJX3.out⟩⟩
    · obtain rfl : i = len := by omega
      have hfin : pre = (toks s).attach := by
        have h := HP.out
        rw [toksAt_end (by rw [← HLN.out]; exact Nat.le_refl _), List.append_nil] at h
        exact subTk_ext _ _ (by rw [h]; simp)
      have HF := hid hfin
      clear hfin
      gi_wp2
      go_end0
      exact ⟨⟨_, rfl⟩, .inl ⟨pre, HF.out, HJ1.out⟩⟩
end Go.Proofs.YtpnbkecchfhimaaGreatDoor

/- out of TkF -/
namespace Go.Proofs.YtpnbkecchfhimaaGreatDoor
open Go.RowKit Go.Shelf
open Go.Lib (hid)
attribute [local go_sem] Oper.semAt_some
set_option linter.unusedVariables false
set_option maxRecDepth 100000

theorem tokens_stops (n Bn n₀ : Nat) (a : Option Addr) (len cap : Nat) (s : ByteArray) (w : World) (hB : Bn < w.heap.size) (hn : n₀ ≤ w.heap.size) (hc : w.cell? ⟨Bn, 0, none⟩ = some (.slice a len cap)) (hlen : len = s.size) (hm : len ≤ 1000000) (hBA : ∀ A, Below n₀ w A → BA A a len cap s ∧ Mx A) :
    SeqStopsK Fence.wide n Tryz.prog 64 #[.pointer (some ⟨Bn, 0, none⟩)] (encsTk s) (KpT n₀ Bn) (fun ys => ys = (toks s).attach) (fun pre => pre <+: (toks s).attach) (toks s).length w := fun l J Jx W hW hJ _ hY h0 =>
  tokens1_in n l Bn n₀ a len cap s J Jx hY W (fun s A B h hb => hJ s A B none h (grown_of_below hb none) (fun r e => by cases e)) (Nat.le_trans hn hW.size) (Nat.lt_of_lt_of_le hB hW.size) ((hW.cell (p := ⟨Bn, 0, none⟩) hB).trans hc) hlen hm (fun A hA => hBA A ((hW.mono hn).trans hA)) h0

theorem info_tk : (Tryz.prog.info? 29).map (fun i => (i.zero, i.size, i.bytes)) = some (some (.agg tk0), 6, 48) := by kernel_rfl
/-- Tokens' cells. -/
def tkCells (l : List Tk) : List Value := l.flatMap fun t => (tkC t).toList
theorem tkCells_snoc (l : List Tk) (t : Tk) : tkCells (l ++ [t]) = tkCells l ++ (tkC t).toList := by simp [tkCells, List.flatMap_append]
theorem tkCells_len (l : List Tk) : (tkCells l).length = l.length * 6 := by
  induction l with
  | nil => rfl
  | cons t l ih =>
    have : tkCells (t :: l) = (tkC t).toList ++ tkCells l := rfl
    rw [this, List.length_append, ih, List.length_cons]
    show 6 + _ = _
    omega
def tksOf {s : ByteArray} (pre : List (TkOf s)) : List Tk := pre.map (·.1)
theorem tksOf_snoc {s : ByteArray} (pre : List (TkOf s)) (x : TkOf s) : tksOf (pre ++ [x]) = tksOf pre ++ [x.1] := by simp [tksOf]
theorem tksOf_all (s : ByteArray) : tksOf (toks s).attach = toks s := by simp [tksOf]
theorem tksOf_len {s : ByteArray} (pre : List (TkOf s)) : (tksOf pre).length = pre.length := by simp [tksOf]
/-- A list of tokens that the call has made. -/
def MadeT (n₀ : Nat) (W : World) (v : Value) (l : List Tk) : Prop := W.ownsRow n₀ 29 6 v l.length (tkCells l) ∧ (v = .slice none 0 0 ↔ l = [])

def apTmps (Bn BO Bx : Nat) (x : Value) : Array Value :=
  #[.slice none 0 0, .func (.func 64) #[] #[.pointer (some ⟨Bn, 0, none⟩)], .pointer (some ⟨BO, 0, none⟩), undef, .slice none 0 0, .pointer (some ⟨Bx, 0, none⟩), .func (.func 64) #[] #[.pointer (some ⟨Bn, 0, none⟩)], x, undef, undef, undef, undef, undef]
set_option maxHeartbeats 8000000 in
theorem appendSeq_tok (Bn : Nat) (a : Option Addr) (len cap : Nat) (s : ByteArray) (w : World) (hba : BA w a len cap s) (hmx : Mx w) (hm : len ≤ 1000000) (hBl : Bn < w.heap.size) (hBn : w.cell? ⟨Bn, 0, none⟩ = some (.slice a len cap)) :
    Calls Tryz.prog 63 #[.slice none 0 0, .func (.func 64) #[] #[.pointer (some ⟨Bn, 0, none⟩)]] w fun e W' => ∃ v, e = .returned v ∧ MadeT w.heap.size W' v (toks s) ∧ Below w.heap.size w W' := by
  obtain ⟨i0, hi, hz0, hz1, hz2⟩ := info_parts info_tk
  have hlen := toks_len s
  have hls := hba.1
  refine (callsIn_wide (n := 6)).1 ?_
  refine callsIn_of_wp_marks Tryz.func63 rfl trivial ?_ rfl
  simp only [Tryz.ntmps63, List.size_toArray, List.length_cons, List.length_nil, Nat.reduceAdd, Nat.reduceSub, Array.replicate_succ, Array.replicate_zero, List.push_toArray, List.append_toArray, List.nil_append, List.cons_append]
  gi_wp2_with fail
  have bO := Boxed.new w 24 (.slice none 0 0)
  have hB0 : Below w.heap.size w (w.alloc (.cells #[.slice none 0 0] 24)) := (Below.refl _ w).alloc (Nat.le_refl _) _
  have hsz : (w.alloc (.cells #[.slice none 0 0] 24)).heap.size = w.heap.size + 1 := by simp
  have hcn := (hB0.cell (p := ⟨Bn, 0, none⟩) hBl).trans hBn
  generalize w.alloc (.cells #[.slice none 0 0] 24) = W0 at *
  refine wpIn_rangeFunc_ownH rfl (by omega) (gf := 64) (lb := #[.pointer (some ⟨Bn, 0, none⟩)]) rfl trivial (enters_of Tryz.func64 (by kernel_rfl) rfl)
    (tokens_stops _ Bn w.heap.size a len cap s W0 (by omega) (by omega) hcn hls hm (fun A hA => ⟨hba.below (hB0.trans hA) (Nat.le_refl _), hmx.below (hB0.trans hA) (Nat.le_refl _)⟩)) (fun h k => h.trans k) (KpT.putObj (by omega) (by omega)) (Below.refl _ _) (fun _ => rfl)
    (fun pre W => (∃ v, Boxed W w.heap.size 24 v ∧ W.ownsRow w.heap.size 29 6 v (tksOf pre).length (tkCells (tksOf pre)) ∧ (v = .slice none 0 0 ↔ tksOf pre = [])) ∧ Below w.heap.size w W)
    (fun _ _ _ => False)
    (OwnFrom.and (Own.from (holdsRow_own w.heap.size w.heap.size 24 29 6 (fun pre => (tksOf pre).length) (fun pre => tkCells (tksOf pre)) (fun pre v => v = .slice none 0 0 ↔ tksOf pre = [])) _) (ownFrom_below (Nat.le_refl _) (by omega)))
    (fun _ _ _ _ _ hs _ _ => hs)
    ⟨⟨_, bO, World.ownsRow_nil _ _ _ _, by simp [tksOf]⟩, hB0⟩
    (fun x a' W => ∃ Bx, w.heap.size < Bx ∧ W.heap[Bx]? = some (.cells (tkC x.1) 29 (0, 0)) ∧ a' = { tmps := apTmps Bn w.heap.size Bx (encTk x.1), defers := [] })
    (fun x a' _ X Y row hs hg hr => by
      obtain ⟨Bx, h1, h2, h3⟩ := hs
      refine ⟨Bx, h1, ?_, h3⟩
      refine (hg.block Bx (Array.getElem?_eq_some_iff.1 h2).1 (fun e => ?_)).trans h2
      obtain ⟨_, o, ho, hc⟩ := hr Bx e.symm
      rw [h2] at ho
      cases ho
      cases hc)
    ?assign ?body ?done ?stop
  case assign =>
    rintro l pre x W K ⟨⟨v, hv, hrow, hnil⟩, hB⟩ hK
    have HK := hid hK
    have HROW := hid hrow
    have HNIL := hid hnil
    have HV := hid hv
    have HB := hid hB
    have hlv := hv.lt
    clear hK hrow hnil hv hB
    simp only [encsTk, encTk, tkC]
    gi_wp2
    have hbl := (Below.refl W.heap.size W).alloc (Nat.le_refl _) (.cells (tkC x.1) 29)
    refine HK.out _ _ ((KeepsOthers.alloc _ _).from _) (KpT.of_below hbl HB.out.size (by have := HB.out.size; omega)) ⟨⟨v, HV.out.alloc _, HROW.out.alloc _, HNIL.out⟩, HB.out.alloc HB.out.size _⟩
      ⟨W.heap.size, hlv, World.alloc_heap_new W _, rfl⟩
  case body =>
    rintro l pre x a' W hl ⟨rc, hrc⟩ ⟨⟨v, hv, hrow, hnil⟩, hB⟩ ⟨Bx, hBx, bX, rfl⟩ hlt
    have hc := hv.cell
    have bX' : Blk W Bx 29 (tkC x.1) := bX
    have y0 := bX'.cell 0
    have y1 := bX'.cell 1
    have y2 := bX'.cell 2
    have y3 := bX'.cell 3
    have y4 := bX'.cell 4
    have y5 := bX'.cell 5
    simp only [tkC, List.getElem?_toArray, List.getElem?_cons_zero, List.getElem?_cons_succ] at y0 y1 y2 y3 y4 y5
    have hrl := tksOf_len pre
    have hsw := hB.size
    have HB := hid hB
    have HNIL := hid hnil
    have hk1 : (tksOf pre).length + 1 ≤ 1000000 := by omega
    have hne : 24 ≠ 29 := by decide
    have HV := hid hv
    have HROW := hid hrow
    have e1 := tksOf_snoc pre x
    have HX := hid (show tkC x.1 = #[.int .i64 x.1.kind, .int .i64 x.1.fr, .int .i64 x.1.til, .string x.1.name, .int .i32 x.1.r, .bool x.1.single] from rfl)
    have HE := hid e1
    have hn0 : v = .slice none 0 0 ↔ (tksOf pre).length = 0 := hnil.trans List.length_eq_zero_iff.symm
    have HN0 := hid hn0
    generalize x.1 = t at *
    obtain ⟨kd, fr, til, nm, r, sg⟩ := t
    clear hrl hlt hlen hB hnil hv hrow bX bX' e1 hn0 hls
    simp only at y0 y1 y2 y3 y4 y5
    unfold apTmps encTk tkC
    simp only
    gi_wp2_with (gi_at_builtin; refine wpListIn_append_keep _ rfl _ _ 24 rfl w.heap.size 29 i0 (.agg tk0) 6 48 Tryz.underlying24 hi hz0 hz1 hz2 rfl (by decide) _ _ _ rfl (HROW.out.alloc _) ⟨W.heap.size, 0, none⟩ 1 1 [.int .i64 kd, .int .i64 fr, .int .i64 til, .string nm, .int .i32 r, .bool sg] rfl rfl (World.news_of_block (World.alloc_heap_new W _)) (by simp [Value.oneCell']) (by unfold maxLen; omega) (by omega) (by simp; omega) HN0.out ?_; intro v' w1 hown' hgrow hnil' hhd; obtain ⟨g', cap', rfl⟩ := ownsRow_succ hown'; obtain ⟨hv1, hv2, hr2, hk2, hb2⟩ := HV.out.appended hne HROW.out (by omega) (Nat.le_refl _) hown' hgrow; have hc1 := hv1.cell; have hf1 := hv1.frozen)
    have hkt : HeadK 29 6 W (w1.setCell ⟨w.heap.size, 0, none⟩ (.slice (some ⟨g', 0, none⟩) ((tksOf pre).length + 1) cap')) :=
      ((HeadK.of_below ((Below.refl W.heap.size W).alloc (Nat.le_refl _) _)).trans hhd).trans (HeadK.set_far (t := 24) w1 ⟨w.heap.size, 0, none⟩ _ _ hv1 hne)
    exact ⟨hk2.from _, ⟨hb2, hb2.block Bn hBl, hkt⟩, ⟨_, hv2, by rw [HE.out, tkCells_snoc, List.length_append, List.length_singleton]; exact hr2, by rw [HE.out]; simp⟩, HB.out.trans hb2⟩
  case done =>
    rintro D ys W hD rfl ⟨⟨v, hv, hrow, hnil⟩, hB⟩ hK
    have hc := hv.cell
    rw [tksOf_all] at hrow hnil
    have HROW := hid hrow
    have HNIL := hid hnil
    have HB := hid hB
    clear hrow hnil hB hv
    gi_wp2
    refine ⟨by simp, .inl ⟨_, _, rfl, run_takeDeferred hK, ?_⟩⟩
    exact ⟨_, results_tmp rfl _ _ _, v, rfl, ⟨ownsRow_putObj HROW.out _ hK rfl, HNIL.out⟩, HB.out.trans (belowK_b (w := w) (Nat.le_refl _) W D _ _ (by omega) hK rfl rfl)⟩
  case stop =>
    rintro D c pre W _ _ h _
    exact h.elim
theorem collect_tok (Bn : Nat) (a : Option Addr) (len cap : Nat) (s : ByteArray) (w : World) (hba : BA w a len cap s) (hmx : Mx w) (hm : len ≤ 1000000) (hBl : Bn < w.heap.size) (hBn : w.cell? ⟨Bn, 0, none⟩ = some (.slice a len cap)) :
    Calls Tryz.prog 37 #[.func (.func 64) #[] #[.pointer (some ⟨Bn, 0, none⟩)]] w fun e W' => ∃ v, e = .returned v ∧ MadeT w.heap.size W' v (toks s) ∧ Below w.heap.size w W' := by
  have HA := hid (appendSeq_tok Bn a len cap s w hba hmx hm hBl hBn)
  clear hba hmx hBl hBn
  go_enter Tryz.func37, Tryz.ntmps37
  go_wp2_with fail
  refine HA.out.mono ?_
  rintro e w2 ⟨v, rfl, hmd, hb2⟩
  have HM := hid hmd
  have HB2 := hid hb2
  clear hmd hb2
  go_wp2_with fail
  go_ret
  exact ⟨v, rfl, HM.out, HB2.out⟩
/-- token.All. -/
theorem tokAll_any (a : Option Addr) (len cap : Nat) (s : ByteArray) (w : World) (hba : BA w a len cap s) (hmx : Mx w) (hm : len ≤ 1000000) :
    Calls Tryz.prog 13 #[.slice a len cap] w fun e W' => ∃ v, e = .returned v ∧ MadeT w.heap.size W' v (toks s) ∧ Below w.heap.size w W' := by
  have hb1 : Below w.heap.size w (w.alloc (.cells #[.slice a len cap] 22)) := (Below.refl _ w).alloc (Nat.le_refl _) _
  have HT := hid (tokens_any (.slice a len cap) a len cap rfl w)
  have HC := hid (collect_tok w.heap.size a len cap s _ (hba.below hb1 (Nat.le_refl _)) (hmx.below hb1 (Nat.le_refl _)) hm (by simp) (by simp))
  have HB1 := hid hb1
  clear hba hmx hb1
  go_enter Tryz.func13, Tryz.ntmps13
  go_wp2_with fail
  refine HT.out.mono ?_
  rintro e w2 ⟨rfl, rfl⟩
  go_wp2_with fail
  refine HC.out.mono ?_
  rintro e w2 ⟨v, rfl, hmd, hb2⟩
  have HM := hid (show MadeT w.heap.size w2 v (toks s) from ⟨owns_base hmd.1 (by simp), hmd.2⟩)
  have HB2 := hid (HB1.out.trans (hb2.mono HB1.out.size))
  clear hmd hb2
  go_wp2_with fail
  go_ret
  exact ⟨v, rfl, HM.out, HB2.out⟩
end Go.Proofs.YtpnbkecchfhimaaGreatDoor
