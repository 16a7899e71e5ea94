/- Texts of an earlier chapter (An), merged by a program of mine. -/
import Derived.Test.YtpnbkecchfhimaaGreatDoorBase
import Derived.Test.YtpnbkecchfhimaaGreatDoorMem
import Derived.Test.YtpnbkecchfhimaaGreatDoorWords
import Derived.Test.YtpnbkecchfhimaaGreatDoorOpen
import Derived.Test.YtpnbkecchfhimaaGreatDoorByt
import Derived.Test.YtpnbkecchfhimaaGreatDoorInv
import Derived.BigRegion
import Derived.Deep.DeepCutAuto
import Derived.Deep.RegionWith
/- out of AnA -/
namespace Go.Proofs.YtpnbkecchfhimaaGreatDoor
set_option maxRecDepth 100000
open Go.RowKit
open Go.Lib (hid)
set_option linter.unusedVariables false

def amongB (lo hi c : Int) : Bool := decide (lo ≤ c ∧ c ≤ hi)
theorem among_any (c lo hi : Int) (w : World) : Calls Tryz.prog 90 #[.int .u8 c, .int .u8 lo, .int .u8 hi] w fun e w' => e = .returned (.bool (amongB lo hi c)) ∧ w' = w := by
  unfold amongB
  by_cases h1 : lo ≤ c
  · by_cases h2 : c ≤ hi
    · rw [show decide (lo ≤ c ∧ c ≤ hi) = true from decide_eq_true ⟨h1, h2⟩]
      go_enter Tryz.func90, Tryz.ntmps90
      go_wp2_with fail
      go_ret
      exact ⟨rfl, rfl⟩
    · rw [show decide (lo ≤ c ∧ c ≤ hi) = false from decide_eq_false fun h => h2 h.2]
      go_enter Tryz.func90, Tryz.ntmps90
      go_wp2_with fail
      go_ret
      exact ⟨rfl, rfl⟩
  · rw [show decide (lo ≤ c ∧ c ≤ hi) = false from decide_eq_false fun h => h1 h.1]
    go_enter Tryz.func90, Tryz.ntmps90
    go_wp2_with fail
    go_ret
    exact ⟨rfl, rfl⟩

set_option maxRecDepth 100000 in
set_option maxHeartbeats 4000000 in
theorem run_any_a (b off n cap i : Nat) (lo hi : Int) (s : ByteArray) (hn : n = s.size) (hi' : i ≤ n) (hcap : n ≤ cap) (hc63 : cap ≤ 9223372036854775807) (w : World) (hz : Lib.Bytes w b off s) :
    Calls Tryz.prog 127 #[.slice (some ⟨b, off, none⟩) n cap, .int .i64 i, .int .u8 lo, .int .u8 hi] w fun e w' => e = .returned (.int .i64 (passTo (amongB lo hi) s i : Nat)) ∧ w' = w := by
  have HZ := hid hz
  have HN := hid hn
  clear hz hn
  go_enter Tryz.func127, Tryz.ntmps127
  go_wp2_with fail
  go_loopg [1] n (fun kx s1 wr => ∃ (j : Nat), s1 = .int .i64 j ∧ j ≤ n ∧ n - j ≤ kx ∧ wr = w ∧ Hid (passTo (amongB lo hi) s i = passTo (amongB lo hi) s j))
  case atStart => exact ⟨i, rfl, hi', by omega, rfl, rfl⟩
  case round =>
    obtain ⟨j, rfl, hj, hg, hw, HP⟩ := hrel
    obtain rfl : w = wr := hw.symm
    by_cases hlt : j < n
    · have hlt' : (j : Int) < (n : Int) := by omega
      have his : j < s.size := by have := HN.out; omega
      have hcell := bytes_cell HZ.out his
      have hi1 : (j : Int) + 1 ≤ 9223372036854775807 := by omega
      have hst := passTo_step (p := amongB lo hi) his
      have hsp := passTo_stop (p := amongB lo hi) his
      have ham := fun W => among_any (byt s j) lo hi W
      generalize byt s j = c at *
      cases hp : amongB lo hi c
      · rw [hp] at ham
        have HAM := hid ham
        have HQ := hid (HP.out.trans (hsp hp))
        clear ham hst hsp hp
        go_wp2_with fail
        refine (HAM.out _).mono ?_
        rintro e w2 ⟨rfl, hw⟩
        obtain rfl : w = w2 := hw.symm
        go_wp2_with fail
        go_ret
        rw [HQ.out]
        exact ⟨rfl, rfl⟩
      · rw [hp] at ham
        have HAM := hid ham
        have HQ := hid (HP.out.trans (hst hp))
        clear ham hst hsp hp
        go_wp2_with fail
        refine (HAM.out _).mono ?_
        rintro e w2 ⟨rfl, hw⟩
        obtain rfl : w = w2 := hw.symm
        go_wp2_with fail
        go_roundg (n - (j + 1))
        case measure => omega
        case rel => exact ⟨j + 1, rfl, by omega, Nat.le_refl _, rfl, HQ⟩
    · have hlt' : ¬ (j : Int) < (n : Int) := by omega
      have HQ := hid (HP.out.trans (passTo_end (p := amongB lo hi) (s := s) (i := j) (by have := HN.out; omega)))
      have HJ := hid (show j = n by omega)
      go_wp2_with fail
      go_ret
      rw [HQ.out]
      exact ⟨rfl, rfl⟩

theorem begins_any (a : Option Addr) (n cap : Nat) (i : Int) (s : ByteArray) (w : World) (hb : BA w a n cap s) (hi1 : i ≤ 9223372036854775807) :
    Calls Tryz.prog 88 #[.slice a n cap, .int .i64 i] w fun e w' => e = .returned (.bool (decide (0 ≤ i ∧ i < n ∧ byt s i.toNat = 27))) ∧ w' = w := by
  have hn := hb.1
  have hrow := hb.2.2.2
  have hcap := hb.2.1
  have h63 := hb.2.2.1
  clear hb
  by_cases h0 : 0 ≤ i
  · obtain ⟨k, rfl⟩ : ∃ k : Nat, i = k := ⟨i.toNat, by omega⟩
    by_cases h1 : k < n
    · obtain ⟨b, off, rfl, hbl, hz⟩ := hrow (by omega)
      have h1' : (k : Int) < (n : Int) := by omega
      have hcell := bytes_cell hz (i := k) (by omega)
      rw [show (k : Int).toNat = k from rfl]
      generalize byt s k = c at *
      by_cases hc : c = 27
      · subst hc
        have HD := hid (show decide (0 ≤ (k : Int) ∧ (k : Int) < (n : Int) ∧ (27 : Int) = 27) = true from decide_eq_true ⟨h0, h1', rfl⟩)
        rw [HD.out]
        clear hn hrow hz
        go_enter Tryz.func88, Tryz.ntmps88
        go_wp2_with fail
        go_ret
        exact ⟨rfl, rfl⟩
      · have HD := hid (show decide (0 ≤ (k : Int) ∧ (k : Int) < (n : Int) ∧ c = 27) = false from decide_eq_false fun h => hc h.2.2)
        have hcb : (c == 27) = false := by simpa using hc
        rw [HD.out]
        clear hn hrow hz
        go_enter Tryz.func88, Tryz.ntmps88
        go_wp2_with fail
        go_ret
        exact ⟨rfl, rfl⟩
    · have h1' : ¬ (k : Int) < (n : Int) := by omega
      rw [show decide (0 ≤ (k : Int) ∧ (k : Int) < (n : Int) ∧ byt s (k : Int).toNat = 27) = false from decide_eq_false fun h => h1' h.2.1]
      clear hn hrow
      go_enter Tryz.func88, Tryz.ntmps88
      go_wp2_with fail
      go_ret
      exact ⟨rfl, rfl⟩
  · rw [show decide (0 ≤ i ∧ i < n ∧ byt s i.toNat = 27) = false from decide_eq_false fun h => h0 h.1]
    clear hn hrow
    go_enter Tryz.func88, Tryz.ntmps88
    go_wp2_with fail
    go_ret
    exact ⟨rfl, rfl⟩

/-- An escape. -/
structure Es where
  size : Nat
  whole : Bool
  open_ : Bool
  last : Int
def Es.val (e : Es) : Value := .agg #[.int .i64 e.size, .bool e.whole, .bool e.open_, .int .u8 e.last]
def es0 : Es := ⟨0, false, false, 0⟩
/-- A control sequence: where its parameters end; where its others. -/
def seqK (t : ByteArray) : Nat := passTo (amongB 48 63) t 2
def seqN (t : ByteArray) : Nat := passTo (amongB 32 47) t (seqK t)
def seqE (t : ByteArray) : Es := if seqN t < t.size ∧ amongB 64 126 (byt t (seqN t)) = true then ⟨seqN t + 1, true, false, byt t (seqN t)⟩ else ⟨seqN t, false, seqN t == t.size, 0⟩
def headE (t : ByteArray) : Es :=
  if t.size = 1 then ⟨1, false, true, 0⟩
  else if byt t 1 = 91 then seqE t
  else if amongB 64 95 (byt t 1) = true then ⟨2, true, false, byt t 1⟩
  else ⟨1, false, false, 0⟩
def readE (s : ByteArray) (i : Int) : Es := if 0 ≤ i ∧ i < s.size ∧ byt s i.toNat = 27 then headE (s.extract i.toNat s.size) else es0
def es0c : Array Value := #[.int .i64 0, .bool false, .bool false, .int .u8 0]

end Go.Proofs.YtpnbkecchfhimaaGreatDoor

/- out of AnB -/
namespace Go.Proofs.YtpnbkecchfhimaaGreatDoor
set_option maxRecDepth 100000
open Go.RowKit
open Go.Lib (hid)
set_option linter.unusedVariables false

theorem results_row_tmp2 {P : Program} {fn : Func} {p u v : Tmp} {ty : TypeId} (h : fn.results = #[.cell p ty, .tmp u, .tmp v]) (tmps : Array Value) (w : World) (g : Nat) (t : TypeId) (cs : Array Value) (fr : Nat × Nat) (d : TypeDesc)
    (hp : tmps.getD p undef = .pointer (some ⟨g, 0, none⟩)) (hg : w.heap[g]? = some (.cells cs t fr))
    (hu : P.underlying ty = some d) (hd : (match d with | .struct _ | .array _ _ => true | _ => false) = true) (hi : (P.info? ty).map (·.size) = some cs.size) :
    (results fn tmps).run P w = .ok (.tuple #[.agg cs, tmps.getD u undef, tmps.getD v undef]) w := by
  have hp' : tmps[p]?.getD undef = .pointer (some ⟨g, 0, none⟩) := by simpa using hp
  simp [results, h, hp', asAddr, run_loadVar_row w g t ty cs fr d hg hu hd hi]

def set4 (w : World) (r : Nat) (e : Es) : World :=
  (((w.setCell ⟨r, 0, none⟩ (.int .i64 e.size)).setCell ⟨r, 1, none⟩ (.bool e.whole)).setCell ⟨r, 2, none⟩ (.bool e.open_)).setCell ⟨r, 3, none⟩ (.int .u8 e.last)
theorem set4_blk {w : World} {r : Nat} {e : Es} (h : Blk w r 106 es0c) : Blk (set4 w r e) r 106 #[.int .i64 e.size, .bool e.whole, .bool e.open_, .int .u8 e.last] := by
  have := (((h.set_ 0 (.int .i64 e.size)).set_ 1 (.bool e.whole)).set_ 2 (.bool e.open_)).set_ 3 (.int .u8 e.last)
  show Blk _ _ _ _
  unfold set4
  simpa [es0c] using this
theorem set4_below {w w0 : World} {B r : Nat} {e : Es} (hB : B ≤ r) (h : Below B w0 w) : Below B w0 (set4 w r e) :=
  (((h.setCell (p := ⟨r, 0, none⟩) hB (.int .i64 e.size)).setCell (p := ⟨r, 1, none⟩) hB (.bool e.whole)).setCell (p := ⟨r, 2, none⟩) hB (.bool e.open_)).setCell (p := ⟨r, 3, none⟩) hB (.int .u8 e.last)

set_option maxRecDepth 100000 in
set_option maxHeartbeats 4000000 in
theorem sequence_any (b off n cap : Nat) (t : ByteArray) (hn : n = t.size) (h2 : 2 ≤ n) (hcap : n ≤ cap) (hc63 : cap ≤ 9223372036854775807) (hm : n ≤ 1048576) (w : World) (hbl : b < w.heap.size) (hz : Lib.Bytes w b off t) :
    Calls Tryz.prog 89 #[.slice (some ⟨b, off, none⟩) n cap] w fun e w' => e = .returned (.tuple #[(seqE t).val, .int .i64 (seqK t), .int .i64 (seqN t)]) ∧ Below w.heap.size w w' := by
  have hk1 := passTo_le (amongB 48 63) t (i := 2) (by omega)
  have hn1 := passTo_le (amongB 32 47) t hk1
  have hdef : seqE t = if passTo (amongB 32 47) t (passTo (amongB 48 63) t 2) < t.size ∧ amongB 64 126 (byt t (passTo (amongB 32 47) t (passTo (amongB 48 63) t 2))) = true then ⟨passTo (amongB 32 47) t (passTo (amongB 48 63) t 2) + 1, true, false, byt t (passTo (amongB 32 47) t (passTo (amongB 48 63) t 2))⟩ else ⟨passTo (amongB 32 47) t (passTo (amongB 48 63) t 2), false, passTo (amongB 32 47) t (passTo (amongB 48 63) t 2) == t.size, 0⟩ := rfl
  have hb1 := (Below.refl w.heap.size w).alloc (Nat.le_refl _) (.cells es0c 106)
  have hr1 := Blk.new w 106 es0c
  have hz1 : Lib.Bytes (w.alloc (.cells es0c 106)) b off t := Bytes.keepAt hz fun k => World.cell?_of_block (hb1.block b hbl)
  have hrun := fun (i : Nat) (lo hi : Int) (h : i ≤ n) => run_any_a b off n cap i lo hi t hn h hcap hc63 _ hz1
  show Calls Tryz.prog 89 #[.slice (some ⟨b, off, none⟩) n cap] w fun e w' => e = .returned (.tuple #[(seqE t).val, .int .i64 (passTo (amongB 48 63) t 2 : Nat), .int .i64 (passTo (amongB 32 47) t (passTo (amongB 48 63) t 2) : Nat)]) ∧ Below w.heap.size w w'
  have hr1' := hrun 2 48 63 (by omega)
  have hr2' := hrun (passTo (amongB 48 63) t 2) 32 47 (by omega)
  generalize passTo (amongB 32 47) t (passTo (amongB 48 63) t 2) = N at *
  generalize passTo (amongB 48 63) t 2 = K at *
  have HRUN1 := hid hr1'
  have HRUN2 := hid hr2'
  have HDEF := hid hdef
  have HZ1 := hid hz1
  have HN := hid hn
  have r0 := hr1.cell 0
  have r1 := hr1.cell 1
  have r2 := hr1.cell 2
  have r3 := hr1.cell 3
  have frr := hr1.frozen
  simp only [es0c, List.getElem?_toArray, List.getElem?_cons_zero, List.getElem?_cons_succ] at r0 r1 r2 r3 frr
  have HR1 := hid hr1
  have HB1 := hid hb1
  have hnl : N ≤ n := by omega
  have hN1 : (N : Int) + 1 ≤ 9223372036854775807 := by omega
  clear hdef hr1 hb1 hz1 hz hrun hr1' hr2' hn hk1 hn1
  simp only [es0c] at HRUN1 HRUN2 HZ1 HR1 HB1
  go_enter Tryz.func89, Tryz.ntmps89
  go_upto_region 1 with fail
  generalize w.alloc (.cells #[.int .i64 0, .bool false, .bool false, .int .u8 0] 106) = w1 at *
  go_wp2_with fail
  refine HRUN1.out.mono ?_
  rintro e w2 ⟨rfl, hw⟩
  obtain rfl : w1 = w2 := hw.symm
  go_wp2_with fail
  refine HRUN2.out.mono ?_
  rintro e w2 ⟨rfl, hw⟩
  obtain rfl : w1 = w2 := hw.symm
  by_cases hlt : N < n
  · have hlt' : (N : Int) < (n : Int) := by omega
    have hcell := bytes_cell HZ1.out (i := N) (by have := HN.out; omega)
    have ham := fun W => among_any (byt t N) 64 126 W
    have hd := HDEF.out
    generalize byt t N = c at *
    cases hp : amongB 64 126 c
    · rw [hp] at ham
      have HAM := hid ham
      have HE : Hid (seqE t = ⟨N, false, false, 0⟩) := by
        show _ = _
        rw [hd, if_neg (fun h => by rw [hp] at h; exact absurd h.2 (by decide)), show (N == t.size) = false by have := HN.out; simp; omega]
      have hne : ¬ (N : Int) = (n : Int) := by omega
      have hneb : ((N : Int) == (n : Int)) = false := by simpa using hne
      have HF := hid (set4_blk (e := ⟨N, false, false, 0⟩) HR1.out)
      have HBF := hid (set4_below (e := ⟨N, false, false, 0⟩) (Nat.le_refl w.heap.size) HB1.out)
      clear ham hd hp HDEF
      go_wp2_with fail
      refine (HAM.out _).mono ?_
      rintro e w2 ⟨rfl, hw⟩
      obtain rfl : w1 = w2 := hw.symm
      go_wp2_with fail
      (try simp only [Exit.inBlock, Exit.then])
      rw [HE.out]
      exact bodyPost_ret (results_row_tmp2 rfl _ _ w.heap.size _ _ _ _ rfl HF.out Tryz.underlying106 rfl (by kernel_rfl)) rfl ⟨rfl, HBF.out⟩
    · rw [hp] at ham
      have HAM := hid ham
      have HE : Hid (seqE t = ⟨N + 1, true, false, c⟩) := by
        show _ = _
        rw [hd, if_pos ⟨by have := HN.out; omega, hp⟩]
      have HF := hid (set4_blk (e := ⟨N + 1, true, false, c⟩) HR1.out)
      have HBF := hid (set4_below (e := ⟨N + 1, true, false, c⟩) (Nat.le_refl w.heap.size) HB1.out)
      clear ham hd hp HDEF
      go_wp2_with fail
      refine (HAM.out _).mono ?_
      rintro e w2 ⟨rfl, hw⟩
      obtain rfl : w1 = w2 := hw.symm
      go_wp2_with fail
      (try simp only [Exit.inBlock, Exit.then])
      rw [HE.out]
      exact bodyPost_ret (results_row_tmp2 rfl _ _ w.heap.size _ _ _ _ rfl HF.out Tryz.underlying106 rfl (by kernel_rfl)) rfl ⟨rfl, HBF.out⟩
  · obtain rfl : N = n := by omega
    have hlt' : ¬ (N : Int) < (N : Int) := by omega
    have HE : Hid (seqE t = ⟨N, false, true, 0⟩) := by
      show _ = _
      rw [HDEF.out, if_neg (fun h => by have := HN.out; omega), show (N == t.size) = true by have := HN.out; simp; omega]
    have HF := hid (set4_blk (e := ⟨N, false, true, 0⟩) HR1.out)
    have HBF := hid (set4_below (e := ⟨N, false, true, 0⟩) (Nat.le_refl w.heap.size) HB1.out)
    clear HDEF
    go_wp2_with fail
    (try simp only [Exit.inBlock, Exit.then])
    rw [HE.out]
    exact bodyPost_ret (results_row_tmp2 rfl _ _ w.heap.size _ _ _ _ rfl HF.out Tryz.underlying106 rfl (by kernel_rfl)) rfl ⟨rfl, HBF.out⟩

end Go.Proofs.YtpnbkecchfhimaaGreatDoor

/- out of AnC -/
namespace Go.Proofs.YtpnbkecchfhimaaGreatDoor
set_option maxRecDepth 100000
open Go.RowKit
open Go.Lib (hid)
set_option linter.unusedVariables false

set_option maxRecDepth 100000 in
set_option maxHeartbeats 8000000 in
theorem read_any_a (a : Option Addr) (n cap : Nat) (i : Int) (s : ByteArray) (w : World) (hb : BA w a n cap s) (hm : n ≤ 1048576) (hi63 : i ≤ 9223372036854775807) :
    Calls Tryz.prog 59 #[.slice a n cap, .int .i64 i] w fun e w' => e = .returned (readE s i).val ∧ Below w.heap.size w w' := by
  have hb1 := (Below.refl w.heap.size w).alloc (Nat.le_refl _) (.cells es0c 106)
  have hr1 := Blk.new w 106 es0c
  have hbeg := fun W (h : BA W a n cap s) => begins_any a n cap i s W h hi63
  have hbeg1 := hbeg _ (hb.below hb1 (Nat.le_refl _))
  have r0 := hr1.cell 0
  have r1 := hr1.cell 1
  have r2 := hr1.cell 2
  have r3 := hr1.cell 3
  have frr := hr1.frozen
  simp only [es0c, List.getElem?_toArray, List.getElem?_cons_zero, List.getElem?_cons_succ] at r0 r1 r2 r3 frr hbeg1
  have hF0 := set4_blk (e := es0) hr1
  have hBF0 := set4_below (e := es0) (Nat.le_refl w.heap.size) hb1
  have hdef : readE s i = if 0 ≤ i ∧ i < s.size ∧ byt s i.toNat = 27 then headE (s.extract i.toNat s.size) else es0 := rfl
  have HR1 := hid hr1
  have HB1 := hid hb1
  have HF0 := hid hF0
  have HBF0 := hid hBF0
  have HBA := hid hb
  simp only [es0c] at HR1 HB1 HF0 HBF0
  clear hr1 hb1 hF0 hBF0 hbeg hb
  by_cases hbe : 0 ≤ i ∧ i < (n : Int) ∧ byt s i.toNat = 27
  · have hbs : 0 ≤ i ∧ i < (s.size : Int) ∧ byt s i.toNat = 27 := ⟨hbe.1, by have := HBA.out.1; omega, hbe.2.2⟩
    rw [if_pos hbs] at hdef
    clear hbs
    rw [show decide (0 ≤ i ∧ i < (n : Int) ∧ byt s i.toNat = 27) = true from decide_eq_true hbe] at hbeg1
    obtain ⟨h0, h1, h27⟩ := hbe
    obtain ⟨k, rfl⟩ : ∃ k : Nat, i = k := ⟨i.toNat, by omega⟩
    rw [show ((k : Int)).toNat = k from rfl] at hdef h27
    have hkn : k < n := by omega
    obtain ⟨b, off, rfl, hbl, hz⟩ := HBA.out.2.2.2 (by omega)
    have hcap := HBA.out.2.1
    have h63 := HBA.out.2.2.1
    have hns := HBA.out.1
    have hsl := fun W => slice_tail b off n cap k (by omega) hcap W
    simp only [show offIf cap k off = off + k by unfold offIf; rw [if_neg (by omega)]] at hsl
    have hz1 : Lib.Bytes (w.alloc (.cells #[.int .i64 0, .bool false, .bool false, .int .u8 0] 106)) b (off + k) (s.extract k s.size) := by
      apply bytes_of_byt
      intro j hj
      have := bytes_tail hns hcap hz j (i := k) (by rw [ByteArray.size_extract] at hj; omega)
      rw [show offIf cap k off = off + k by unfold offIf; rw [if_neg (by omega)]] at this
      exact (HB1.out.cell (p := ⟨b, _, none⟩) hbl).trans this
    have hts : n - k = (s.extract k s.size).size := by rw [ByteArray.size_extract]; omega
    have hsq := fun (h2 : 2 ≤ n - k) => sequence_any b (off + k) (n - k) (cap - k) (s.extract k s.size) hts h2 (by omega) (by omega) (by omega) _ (Nat.lt_of_lt_of_le hbl HB1.out.size) hz1
    generalize s.extract k s.size = t at *
    have HBEG := hid hbeg1
    have HSQ := hid hsq
    have HTS := hid hts
    have HDEF := hid hdef
    have HZ1 := hid hz1
    clear hbeg1 hsq hts hdef hz1 hz hns h27 HBA
    by_cases hone : n - k = 1
    · have HE := hid (show readE s k = ⟨1, false, true, 0⟩ by rw [HDEF.out]; unfold headE; rw [if_pos (by have := HTS.out; omega)])
      rw [hone] at hsl
      have HF := hid (set4_blk (e := ⟨1, false, true, 0⟩) HR1.out)
      have HBF := hid (set4_below (e := ⟨1, false, true, 0⟩) (Nat.le_refl w.heap.size) HB1.out)
      clear HSQ HDEF HTS hone
      go_enter Tryz.func59, Tryz.ntmps59
      go_upto_region 1 with fail
      generalize w.alloc (.cells #[.int .i64 0, .bool false, .bool false, .int .u8 0] 106) = w1 at *
      go_wp2_with fail
      refine HBEG.out.mono ?_
      rintro e w2 ⟨rfl, hw⟩
      obtain rfl : w1 = w2 := hw.symm
      go_wp2_with fail
      (try simp only [Exit.inBlock, Exit.then])
      rw [HE.out]
      exact bodyPost_ret (results_cell_row rfl _ _ w.heap.size _ _ _ _ rfl HF.out Tryz.underlying106 rfl (by kernel_rfl)) rfl ⟨rfl, HBF.out⟩
    · have hone' : ¬ ((n - k : Nat) : Int) = 1 := by omega
      have honeb : (((n - k : Nat) : Int) == 1) = false := by simpa using hone'
      have hts1 : ¬ t.size = 1 := by have := HTS.out; omega
      have hd := HDEF.out
      unfold headE at hd
      rw [if_neg hts1] at hd
      have hc1 := bytes_cell HZ1.out (i := 1) (by have := HTS.out; omega)
      have hln : (1 : Int) < ((n - k : Nat) : Int) := by omega
      by_cases h91 : byt t 1 = 91
      · rw [if_pos h91] at hd
        rw [h91] at hc1
        have hsq := HSQ.out (by omega)
        have HE := hid hd
        have HSQ1 := hid hsq
        clear hd hsq HSQ HDEF HTS hts1 h91 hone
        go_enter Tryz.func59, Tryz.ntmps59
        go_upto_region 1 with fail
        generalize w.alloc (.cells #[.int .i64 0, .bool false, .bool false, .int .u8 0] 106) = w1 at *
        go_wp2_with fail
        refine HBEG.out.mono ?_
        rintro e w2 ⟨rfl, hw⟩
        obtain rfl : w1 = w2 := hw.symm
        go_wp2_with fail
        refine HSQ1.out.mono ?_
        rintro e w2 ⟨rfl, hb2⟩
        generalize seqE t = q at HE ⊢
        obtain ⟨qs, qw, qo, ql⟩ := q
        simp only [Es.val]
        have hr2 := HR1.out.below hb2 HR1.out.lt
        have hb3 := (Below.refl w2.heap.size w2).alloc (Nat.le_refl _) (.cells #[.int .i64 qs, .bool qw, .bool qo, .int .u8 ql] 106)
        have hq3 := Blk.new w2 106 #[.int .i64 qs, .bool qw, .bool qo, .int .u8 ql]
        have hr3 := hr2.below hb3 hr2.lt
        have HB3 := hid ((HB1.out.trans (hb2.mono HB1.out.size)).trans (hb3.mono (by have := HB1.out.size; have := hb2.size; omega)))
        go_upto_region 8 with fail
        generalize w2.alloc (.cells #[.int .i64 qs, .bool qw, .bool qo, .int .u8 ql] 106) = w3 at *
        have k0 := hr3.cell 0
        have k1 := hr3.cell 1
        have k2 := hr3.cell 2
        have k3 := hr3.cell 3
        have frk := hr3.frozen
        have q0 := hq3.cell 0
        have q1 := hq3.cell 1
        have q2 := hq3.cell 2
        have q3 := hq3.cell 3
        simp only [List.getElem?_toArray, List.getElem?_cons_zero, List.getElem?_cons_succ] at k0 k1 k2 k3 q0 q1 q2 q3
        have HF := hid (set4_blk (e := ⟨qs, qw, qo, ql⟩) hr3)
        have HBF := hid (set4_below (e := ⟨qs, qw, qo, ql⟩) (Nat.le_refl w.heap.size) HB3.out)
        clear hr2 hr3 hq3 hb2 hb3 r0 r1 r2 r3 frr
        go_wp2_with fail
        (try simp only [Exit.inBlock, Exit.then])
        rw [HE.out]
        exact bodyPost_ret (results_cell_row rfl _ _ w.heap.size _ _ _ _ rfl HF.out Tryz.underlying106 rfl (by kernel_rfl)) rfl ⟨rfl, HBF.out⟩
      · have b91 : (byt t 1 == 91) = false := by simpa using h91
        rw [if_neg h91] at hd
        have ham := fun W => among_any (byt t 1) 64 95 W
        generalize byt t 1 = c at *
        cases hp : amongB 64 95 c
        · rw [hp] at ham
          rw [if_neg (by rw [hp]; decide)] at hd
          have HE := hid hd
          have HAM := hid ham
          have HF := hid (set4_blk (e := ⟨1, false, false, 0⟩) HR1.out)
          have HBF := hid (set4_below (e := ⟨1, false, false, 0⟩) (Nat.le_refl w.heap.size) HB1.out)
          clear hd ham hp HSQ HDEF HTS hts1 hone
          go_enter Tryz.func59, Tryz.ntmps59
          go_upto_region 1 with fail
          generalize w.alloc (.cells #[.int .i64 0, .bool false, .bool false, .int .u8 0] 106) = w1 at *
          go_wp2_with fail
          refine HBEG.out.mono ?_
          rintro e w2 ⟨rfl, hw⟩
          obtain rfl : w1 = w2 := hw.symm
          go_wp2_with fail
          refine (HAM.out _).mono ?_
          rintro e w2 ⟨rfl, hw⟩
          obtain rfl : w1 = w2 := hw.symm
          go_wp2_with fail
          (try simp only [Exit.inBlock, Exit.then])
          rw [HE.out]
          exact bodyPost_ret (results_cell_row rfl _ _ w.heap.size _ _ _ _ rfl HF.out Tryz.underlying106 rfl (by kernel_rfl)) rfl ⟨rfl, HBF.out⟩
        · rw [hp] at ham
          rw [if_pos hp] at hd
          have HE := hid hd
          have HAM := hid ham
          have HF := hid (set4_blk (e := ⟨2, true, false, c⟩) HR1.out)
          have HBF := hid (set4_below (e := ⟨2, true, false, c⟩) (Nat.le_refl w.heap.size) HB1.out)
          clear hd ham hp HSQ HDEF HTS hts1 hone
          go_enter Tryz.func59, Tryz.ntmps59
          go_upto_region 1 with fail
          generalize w.alloc (.cells #[.int .i64 0, .bool false, .bool false, .int .u8 0] 106) = w1 at *
          go_wp2_with fail
          refine HBEG.out.mono ?_
          rintro e w2 ⟨rfl, hw⟩
          obtain rfl : w1 = w2 := hw.symm
          go_wp2_with fail
          refine (HAM.out _).mono ?_
          rintro e w2 ⟨rfl, hw⟩
          obtain rfl : w1 = w2 := hw.symm
          go_wp2_with fail
          (try simp only [Exit.inBlock, Exit.then])
          rw [HE.out]
          exact bodyPost_ret (results_cell_row rfl _ _ w.heap.size _ _ _ _ rfl HF.out Tryz.underlying106 rfl (by kernel_rfl)) rfl ⟨rfl, HBF.out⟩
  · have hbs : ¬ (0 ≤ i ∧ i < (s.size : Int) ∧ byt s i.toNat = 27) := fun h => hbe ⟨h.1, by have := HBA.out.1; omega, h.2.2⟩
    rw [if_neg hbs] at hdef
    clear hbs
    rw [show decide (0 ≤ i ∧ i < (n : Int) ∧ byt s i.toNat = 27) = false from decide_eq_false hbe] at hbeg1
    have HE := hid hdef
    have HBEG := hid hbeg1
    clear hdef hbeg1 hbe HBA
    go_enter Tryz.func59, Tryz.ntmps59
    go_upto_region 1 with fail
    generalize w.alloc (.cells #[.int .i64 0, .bool false, .bool false, .int .u8 0] 106) = w1 at *
    go_wp2_with fail
    refine HBEG.out.mono ?_
    rintro e w2 ⟨rfl, hw⟩
    obtain rfl : w1 = w2 := hw.symm
    go_wp2_with fail
    (try simp only [Exit.inBlock, Exit.then])
    rw [HE.out]
    exact bodyPost_ret (results_cell_row rfl _ _ w.heap.size _ _ _ _ rfl HF0.out Tryz.underlying106 rfl (by kernel_rfl)) rfl ⟨rfl, HBF0.out⟩

end Go.Proofs.YtpnbkecchfhimaaGreatDoor

/- out of AnG -/
namespace Go.Proofs.YtpnbkecchfhimaaGreatDoor
set_option maxRecDepth 100000
set_option linter.unusedVariables false

theorem ext_whole (s : ByteArray) : s.extract 0 s.size = s := by
  apply ByteArray.ext
  simp
theorem readE_head {s : ByteArray} (h0 : 0 < s.size) (h : byt s 0 = 27) : readE s 0 = headE s := by
  unfold readE
  rw [if_pos ⟨by decide, by omega, h⟩]
  exact congrArg headE (ext_whole s)
theorem readE_none {s : ByteArray} (h : ¬ (0 < s.size ∧ byt s 0 = 27)) : readE s 0 = es0 := by
  unfold readE
  exact if_neg fun h2 => h ⟨by omega, h2.2.2⟩
theorem seqN_ge (t : ByteArray) : 2 ≤ seqK t ∧ seqK t ≤ seqN t := ⟨passTo_ge _ _ _, passTo_ge _ _ _⟩
theorem seqE_size (t : ByteArray) : seqN t ≤ (seqE t).size := by
  unfold seqE
  split
  · exact Nat.le_succ _
  · exact Nat.le_refl _
theorem headE_pos (t : ByteArray) : 1 ≤ (headE t).size := by
  have h := seqN_ge t
  have h2 := seqE_size t
  unfold headE
  split
  · exact Nat.le_refl _
  · split
    · omega
    · split
      · exact Nat.le_succ _
      · exact Nat.le_refl _
theorem seq_grows {s s' : ByteArray} (hp : Pre s s') (h2 : 2 ≤ s.size) : ((seqE s).open_ = false → seqE s' = seqE s) ∧ ((seqE s).open_ = true → (seqE s).size = s.size ∧ s.size ≤ (seqE s').size) := by
  have hk := passTo_le (amongB 48 63) s (i := 2) h2
  have hnl : seqN s ≤ s.size := passTo_le (amongB 32 47) s hk
  by_cases hN : seqN s < s.size
  · have hK : seqK s < s.size := Nat.lt_of_le_of_lt (seqN_ge s).2 hN
    have e1 : seqK s' = seqK s := hp.pass_lt h2 hK
    have e2 : seqN s' = seqN s := by
      show passTo (amongB 32 47) s' (seqK s') = _
      rw [e1]
      exact hp.pass_lt (by omega) hN
    have eb := hp.2 _ hN
    have hs := hp.1
    have e3 : seqE s' = seqE s := by
      unfold seqE
      rw [e2, eb]
      by_cases ha : amongB 64 126 (byt s (seqN s)) = true
      · rw [if_pos ⟨by omega, ha⟩, if_pos ⟨hN, ha⟩]
      · rw [if_neg (fun h => ha h.2), if_neg (fun h => ha h.2), show (seqN s == s'.size) = false by simp; omega, show (seqN s == s.size) = false by simp; omega]
    refine ⟨fun _ => e3, fun ho => ?_⟩
    exfalso
    unfold seqE at ho
    split at ho
    · cases ho
    · have : (seqN s == s.size) = false := by simp; omega
      rw [this] at ho
      cases ho
  · have hNe : seqN s = s.size := by omega
    have hE : seqE s = ⟨s.size, false, true, 0⟩ := by
      unfold seqE
      rw [if_neg (fun h => hN h.1), hNe]
      simp
    refine ⟨fun h => (by rw [hE] at h; cases h), fun _ => ⟨by rw [hE], ?_⟩⟩
    have h3 := seqE_size s'
    have h4 := seqN_ge s'
    by_cases hK : seqK s < s.size
    · have e1 : seqK s' = seqK s := hp.pass_lt h2 hK
      have : s.size ≤ seqN s' := by
        show s.size ≤ passTo (amongB 32 47) s' (seqK s')
        rw [e1]
        exact hp.pass_end (by omega) hN
      omega
    · have : s.size ≤ seqK s' := hp.pass_end h2 hK
      omega
theorem head_grows {s s' : ByteArray} (hp : Pre s s') (h1 : 1 ≤ s.size) : ((headE s).open_ = false → headE s' = headE s) ∧ ((headE s).open_ = true → (headE s).size = s.size ∧ s.size ≤ (headE s').size) := by
  have hs := hp.1
  by_cases hone : s.size = 1
  · have hE : headE s = ⟨1, false, true, 0⟩ := by unfold headE; rw [if_pos hone]
    exact ⟨fun h => (by rw [hE] at h; cases h), fun _ => ⟨by rw [hE]; exact hone.symm, by have := headE_pos s'; omega⟩⟩
  · have hb := hp.2 1 (by omega)
    have e1 : headE s = if byt s 1 = 91 then seqE s else if amongB 64 95 (byt s 1) = true then ⟨2, true, false, byt s 1⟩ else ⟨1, false, false, 0⟩ := by unfold headE; rw [if_neg hone]
    have e2 : headE s' = if byt s 1 = 91 then seqE s' else if amongB 64 95 (byt s 1) = true then ⟨2, true, false, byt s 1⟩ else ⟨1, false, false, 0⟩ := by unfold headE; rw [if_neg (by omega), hb]
    by_cases h91 : byt s 1 = 91
    · rw [if_pos h91] at e1 e2
      rw [e1, e2]
      exact seq_grows hp (by omega)
    · rw [if_neg h91] at e1 e2
      rw [e1, e2]
      by_cases ha : amongB 64 95 (byt s 1) = true
      · rw [if_pos ha]; exact ⟨fun _ => rfl, fun h => by cases h⟩
      · rw [if_neg ha]; exact ⟨fun _ => rfl, fun h => by cases h⟩
theorem esc_grows {s s' : ByteArray} (hp : Pre s s') :
    ((readE s 0).size = 0 ∧ (s.size = 0 ∨ (readE s' 0).size = 0)) ∨
    ((readE s 0).size ≠ 0 ∧ (((readE s 0).open_ = false ∧ readE s' 0 = readE s 0) ∨ ((readE s 0).open_ = true ∧ (readE s 0).size = s.size ∧ s.size ≤ (readE s' 0).size))) := by
  have hs := hp.1
  by_cases h : 0 < s.size ∧ byt s 0 = 27
  · right
    rw [readE_head h.1 h.2, readE_head (by omega) (by rw [hp.2 0 h.1]; exact h.2)]
    refine ⟨by have := headE_pos s; omega, ?_⟩
    have hg := head_grows hp h.1
    cases ho : (headE s).open_
    · exact .inl ⟨rfl, hg.1 ho⟩
    · exact .inr ⟨rfl, hg.2 ho⟩
  · left
    rw [readE_none h]
    refine ⟨rfl, ?_⟩
    by_cases h0 : s.size = 0
    · exact .inl h0
    · right
      rw [readE_none (fun h2 => h ⟨by omega, by have := h2.2; rwa [hp.2 0 (by omega)] at this⟩)]
      rfl

end Go.Proofs.YtpnbkecchfhimaaGreatDoor

/- out of AnR -/
namespace Go.Proofs.YtpnbkecchfhimaaGreatDoor
set_option maxRecDepth 100000
open Go.RowKit
open Go.Lib (hid)
set_option linter.unusedVariables false

theorem set4_blkT {T : TypeId} {w : World} {r : Nat} {e : Es} (h : Blk w r T es0c) : Blk (set4 w r e) r T #[.int .i64 e.size, .bool e.whole, .bool e.open_, .int .u8 e.last] := by
  have := (((h.set_ 0 (.int .i64 e.size)).set_ 1 (.bool e.whole)).set_ 2 (.bool e.open_)).set_ 3 (.int .u8 e.last)
  show Blk _ _ _ _
  unfold set4
  simpa [es0c] using this
/-- The document's state at the byte j of an escape. -/
def RS (t : ByteArray) (st j : Nat) : Prop :=
  (st = 0 ∧ j = 1) ∨ (st = 1 ∧ byt t 1 = 91 ∧ 2 ≤ j ∧ seqK t = passTo (amongB 48 63) t j) ∨ (st = 2 ∧ byt t 1 = 91 ∧ 2 ≤ j ∧ seqN t = passTo (amongB 32 47) t j)
theorem amT {lo hi c : Int} (h1 : lo ≤ c) (h2 : c ≤ hi) : amongB lo hi c = true := decide_eq_true ⟨h1, h2⟩
theorem amF {lo hi c : Int} (h : ¬ (lo ≤ c ∧ c ≤ hi)) : amongB lo hi c = false := decide_eq_false h
theorem head_seq {t : ByteArray} (h1 : ¬ t.size = 1) (h91 : byt t 1 = 91) : headE t = seqE t := by unfold headE; rw [if_neg h1, if_pos h91]
theorem rs_start {t : ByteArray} : RS t 0 1 := .inl ⟨rfl, rfl⟩
theorem rs_open {t : ByteArray} (h : byt t 1 = 91) : RS t 1 2 := .inr (.inl ⟨rfl, h, Nat.le_refl _, rfl⟩)
theorem rs_par {t : ByteArray} {j : Nat} (h : RS t 1 j) (hj : j < t.size) (hc : amongB 48 63 (byt t j) = true) : RS t 1 (j + 1) := by
  rcases h with ⟨h, _⟩ | ⟨_, h1, h2, h3⟩ | ⟨h, _⟩
  · cases h
  · exact .inr (.inl ⟨rfl, h1, by omega, h3.trans (passTo_step hj hc)⟩)
  · cases h
theorem rs_k {t : ByteArray} {j : Nat} (h : RS t 1 j) (hj : j < t.size) (hc : amongB 48 63 (byt t j) = false) : byt t 1 = 91 ∧ 2 ≤ j ∧ seqN t = passTo (amongB 32 47) t j := by
  rcases h with ⟨h, _⟩ | ⟨_, h1, h2, h3⟩ | ⟨h, _⟩
  · cases h
  · refine ⟨h1, h2, ?_⟩
    show passTo (amongB 32 47) t (seqK t) = _
    rw [h3, passTo_stop hj hc]
  · cases h
theorem rs_two {t : ByteArray} {j : Nat} (h : RS t 2 j) : byt t 1 = 91 ∧ 2 ≤ j ∧ seqN t = passTo (amongB 32 47) t j := by
  rcases h with ⟨h, _⟩ | ⟨h, _⟩ | ⟨_, h⟩
  · cases h
  · cases h
  · exact h
theorem rs_oth {t : ByteArray} {j : Nat} (h : byt t 1 = 91 ∧ 2 ≤ j ∧ seqN t = passTo (amongB 32 47) t j) (hj : j < t.size) (hc : amongB 32 47 (byt t j) = true) : RS t 2 (j + 1) :=
  .inr (.inr ⟨rfl, h.1, by omega, h.2.2.trans (passTo_step hj hc)⟩)
theorem rs_whole {t : ByteArray} {j : Nat} (h : byt t 1 = 91 ∧ 2 ≤ j ∧ seqN t = passTo (amongB 32 47) t j) (hj : j < t.size) (hc : amongB 32 47 (byt t j) = false) (hw : amongB 64 126 (byt t j) = true) : headE t = ⟨j + 1, true, false, byt t j⟩ := by
  have hn : seqN t = j := h.2.2.trans (passTo_stop hj hc)
  rw [head_seq (by omega) h.1]
  unfold seqE
  rw [hn, if_pos ⟨hj, hw⟩]
theorem rs_broken {t : ByteArray} {j : Nat} (h : byt t 1 = 91 ∧ 2 ≤ j ∧ seqN t = passTo (amongB 32 47) t j) (hj : j < t.size) (hc : amongB 32 47 (byt t j) = false) (hw : amongB 64 126 (byt t j) = false) : headE t = ⟨j, false, false, 0⟩ := by
  have hn : seqN t = j := h.2.2.trans (passTo_stop hj hc)
  rw [head_seq (by omega) h.1]
  unfold seqE
  rw [hn, if_neg (fun h => by rw [hw] at h; exact absurd h.2 (by decide)), show (j == t.size) = false by simp; omega]
theorem rs_end {t : ByteArray} {st j : Nat} (h : RS t st j) (hj : j = t.size) : headE t = ⟨t.size, false, true, 0⟩ := by
  rcases h with ⟨_, h⟩ | ⟨_, h1, h2, h3⟩ | ⟨_, h1, h2, h3⟩
  · unfold headE
    rw [if_pos (by omega)]
    rw [show t.size = 1 by omega]
  · have hk : seqK t = t.size := by rw [h3, passTo_end (by omega)]; exact hj
    have hn : seqN t = t.size := by
      show passTo (amongB 32 47) t (seqK t) = _
      rw [hk, passTo_end (Nat.le_refl _)]
    rw [head_seq (by omega) h1]
    unfold seqE
    rw [hn, if_neg (fun h => Nat.lt_irrefl _ h.1)]
    simp
  · have hn : seqN t = t.size := by rw [h3, passTo_end (by omega)]; exact hj
    rw [head_seq (by omega) h1]
    unfold seqE
    rw [hn, if_neg (fun h => Nat.lt_irrefl _ h.1)]
    simp
theorem rs_two0 {t : ByteArray} (h1 : ¬ t.size = 1) (h91 : ¬ byt t 1 = 91) (ha : amongB 64 95 (byt t 1) = true) : headE t = ⟨2, true, false, byt t 1⟩ := by unfold headE; rw [if_neg h1, if_neg h91, if_pos ha]
theorem rs_one0 {t : ByteArray} (h1 : ¬ t.size = 1) (h91 : ¬ byt t 1 = 91) (ha : amongB 64 95 (byt t 1) = false) : headE t = ⟨1, false, false, 0⟩ := by unfold headE; rw [if_neg h1, if_neg h91, if_neg (by rw [ha]; decide)]

set_option maxRecDepth 100000 in
set_option maxHeartbeats 8000000 in
theorem refread_any_a (a : Option Addr) (n cap : Nat) (i : Int) (s : ByteArray) (w : World) (hb : BA w a n cap s) (hm : n ≤ 1048576) (hi63 : i ≤ 9223372036854775807) :
    Calls Tryz.prog 41 #[.slice a n cap, .int .i64 i] w fun e w' => e = .returned (readE s i).val ∧ Below w.heap.size w w' := by
  have hb1 := (Below.refl w.heap.size w).alloc (Nat.le_refl _) (.cells es0c 76)
  have hr1 := Blk.new w 76 es0c
  have r0 := hr1.cell 0
  have r1 := hr1.cell 1
  have r2 := hr1.cell 2
  have r3 := hr1.cell 3
  have frr := hr1.frozen
  simp only [es0c, List.getElem?_toArray, List.getElem?_cons_zero, List.getElem?_cons_succ] at r0 r1 r2 r3 frr
  have hF0 := set4_blkT (e := es0) hr1
  have hBF0 := set4_below (e := es0) (Nat.le_refl w.heap.size) hb1
  have HR1 := hid hr1
  have HB1 := hid hb1
  have HF0 := hid hF0
  have HBF0 := hid hBF0
  have HBA := hid hb
  simp only [es0c] at HR1 HB1 HF0 HBF0
  clear hr1 hb1 hF0 hBF0 hb
  by_cases h0 : i < 0
  · have HE := hid (show readE s i = es0 by unfold readE; exact if_neg fun h => by omega)
    clear HBA
    go_enter Tryz.func41, Tryz.ntmps41
    go_upto_region 1 with fail
    generalize w.alloc (.cells #[.int .i64 0, .bool false, .bool false, .int .u8 0] 76) = w1 at *
    go_wp2_with fail
    (try simp only [Exit.inBlock, Exit.then])
    rw [HE.out]
    exact bodyPost_ret (results_cell_row rfl _ _ w.heap.size _ _ _ _ rfl HF0.out Tryz.underlying76 rfl (by kernel_rfl)) rfl ⟨rfl, HBF0.out⟩
  obtain ⟨k, rfl⟩ : ∃ k : Nat, i = k := ⟨i.toNat, by omega⟩
  by_cases hkn : n ≤ k
  · have hkn' : (n : Int) ≤ (k : Int) := by omega
    have HE := hid (show readE s k = es0 by unfold readE; exact if_neg fun h => by have := HBA.out.1; omega)
    clear HBA
    go_enter Tryz.func41, Tryz.ntmps41
    go_upto_region 1 with fail
    generalize w.alloc (.cells #[.int .i64 0, .bool false, .bool false, .int .u8 0] 76) = w1 at *
    go_wp2_with fail
    (try simp only [Exit.inBlock, Exit.then])
    rw [HE.out]
    exact bodyPost_ret (results_cell_row rfl _ _ w.heap.size _ _ _ _ rfl HF0.out Tryz.underlying76 rfl (by kernel_rfl)) rfl ⟨rfl, HBF0.out⟩
  have hkn' : ¬ (n : Int) ≤ (k : Int) := by omega
  have hkl : (k : Int) < (n : Int) := by omega
  obtain ⟨b, off, rfl, hbl, hz⟩ := HBA.out.2.2.2 (by omega)
  have hns := HBA.out.1
  have hz1 := fun j (hj : j < s.size) => (HB1.out.cell (p := ⟨b, _, none⟩) hbl).trans (bytes_cell hz hj)
  have hc0 := hz1 k (by omega)
  by_cases h27n : ¬ byt s k = 27
  · have h27 := h27n
    have b27 : (byt s k != 27) = true := by simpa using h27
    have HE := hid (show readE s k = es0 by unfold readE; exact if_neg fun h => h27 h.2.2)
    clear h27n
    generalize byt s k = c at *
    clear HBA hz hz1 hns
    go_enter Tryz.func41, Tryz.ntmps41
    go_upto_region 1 with fail
    generalize w.alloc (.cells #[.int .i64 0, .bool false, .bool false, .int .u8 0] 76) = w1 at *
    go_wp2_with fail
    (try simp only [Exit.inBlock, Exit.then])
    rw [HE.out]
    exact bodyPost_ret (results_cell_row rfl _ _ w.heap.size _ _ _ _ rfl HF0.out Tryz.underlying76 rfl (by kernel_rfl)) rfl ⟨rfl, HBF0.out⟩
  have h27 : byt s k = 27 := Classical.not_not.1 h27n
  rw [h27] at hc0
  clear h27n
  have hdef : readE s k = headE (s.extract k s.size) := by
    unfold readE
    rw [if_pos ⟨by omega, by omega, h27⟩]
    rfl
  have hbt : ∀ j, k + j < s.size → byt (s.extract k s.size) j = byt s (k + j) := fun j hj => byt_extract s k s.size j (by omega) (Nat.le_refl _)
  have hts : n - k = (s.extract k s.size).size := by rw [ByteArray.size_extract]; omega
  generalize s.extract k s.size = t at *
  have HDEF := hid hdef
  have HBT := hid hbt
  have HTS := hid hts
  have HZ := hid hz1
  have HNS := hid hns
  have hk1 : (k : Int) + 1 ≤ 9223372036854775807 := by omega
  clear hdef hbt hts hz1 hns hz HBA h27
  go_enter Tryz.func41, Tryz.ntmps41
  go_upto_region 1 with fail
  generalize w.alloc (.cells #[.int .i64 0, .bool false, .bool false, .int .u8 0] 76) = w1 at *
  go_wp2_with fail
  go_loopg [5, 6] n (fun kx s5 s6 wr => ∃ (j st i : Nat) (z zi : Int), s5 = .int .i64 z ∧ z = st ∧ s6 = .int .i64 zi ∧ zi = (i : Int) ∧ i = k + j ∧ 1 ≤ j ∧ i ≤ n ∧ n - i ≤ kx ∧ wr = w1 ∧ Hid (RS t st j))
  case atStart => exact ⟨1, 0, k + 1, 0, (k : Int) + 1, rfl, rfl, rfl, by omega, rfl, Nat.le_refl _, by omega, by omega, rfl, rs_start⟩
  case round =>
    obtain ⟨j, st, i, z, zi, rfl, hz, rfl, hzi, hi, hj1, hin, hg, hw, HRS⟩ := hrel
    obtain rfl : w1 = wr := hw.symm
    subst hzi
    have hij : (i : Int) - (k : Int) = (j : Int) := by omega
    have HI := hid hi
    clear hi
    by_cases hlt : i < n
    · have hlt' : (i : Int) < (n : Int) := by omega
      have hi1 : (i : Int) + 1 ≤ 9223372036854775807 := by omega
      have hj1' : (j : Int) + 1 ≤ 9223372036854775807 := by have := HI.out; omega
      have hjs : j < t.size := by have := HI.out; have := HTS.out; omega
      have hcell := HZ.out i (by have := HNS.out; omega)
      have hbc : byt s i = byt t j := by rw [HBT.out j (by have := HI.out; have := HNS.out; omega), ← HI.out]
      have hst : z = 0 ∨ z = 1 ∨ z = 2 := by
        rcases HRS.out with ⟨h, _⟩ | ⟨h, _⟩ | ⟨h, _⟩ <;> omega
      rw [hbc] at hcell
      have hj1e : st = 0 → j = 1 := fun h => by
        rcases HRS.out with ⟨_, h⟩ | ⟨h2, _⟩ | ⟨h2, _⟩
        · exact h
        · omega
        · omega
      clear hbc
      rcases hst with rfl | rfl | rfl
      · obtain rfl : st = 0 := by omega
        obtain rfl : j = 1 := hj1e rfl
        have hone : ¬ t.size = 1 := by omega
        have h91o := rs_open (t := t)
        have h2o := rs_two0 hone
        have h1o := rs_one0 hone
        generalize byt t 1 = c at *
        by_cases h91 : c = 91
        · subst h91
          have HN := hid (h91o rfl)
          (try clear hpar); (try clear hk); (try clear hoth); (try clear hwh); (try clear hbr); (try clear h91o); (try clear h2o); (try clear h1o)
          clear HRS hz hj1e hjs
          go_wp2_with fail
          go_roundg (n - (i + 1))
          case measure => omega
          case rel => exact ⟨1 + 1, 1, i + 1, 1, (i : Int) + 1, rfl, rfl, rfl, by omega, by have := HI.out; omega, by omega, by omega, Nat.le_refl _, rfl, HN⟩
        have b91 : (c == 91) = false := by simpa using h91
        by_cases f64 : 64 ≤ c
        · by_cases f95 : c ≤ 95
          · skip
            have HE := hid (show readE s k = ⟨2, true, false, c⟩ from HDEF.out.trans (h2o h91 (amT f64 f95)))
            have HF := hid (set4_blkT (e := ⟨2, true, false, c⟩) HR1.out)
            have HBF := hid (set4_below (e := ⟨2, true, false, c⟩) (Nat.le_refl w.heap.size) HB1.out)
            clear h91o h2o h1o HRS hz hj1e
            go_wp2_with fail
            (try simp only [Exit.inBlock, Exit.then])
            rw [HE.out]
            exact bodyPost_ret (results_cell_row rfl _ _ w.heap.size _ _ _ _ rfl HF.out Tryz.underlying76 rfl (by kernel_rfl)) rfl ⟨rfl, HBF.out⟩
          · skip
            have HE := hid (show readE s k = ⟨1, false, false, 0⟩ from HDEF.out.trans (h1o h91 (amF (by omega))))
            have HF := hid (set4_blkT (e := ⟨1, false, false, 0⟩) HR1.out)
            have HBF := hid (set4_below (e := ⟨1, false, false, 0⟩) (Nat.le_refl w.heap.size) HB1.out)
            clear h91o h2o h1o HRS hz hj1e
            go_wp2_with fail
            (try simp only [Exit.inBlock, Exit.then])
            rw [HE.out]
            exact bodyPost_ret (results_cell_row rfl _ _ w.heap.size _ _ _ _ rfl HF.out Tryz.underlying76 rfl (by kernel_rfl)) rfl ⟨rfl, HBF.out⟩
        · skip
          have HE := hid (show readE s k = ⟨1, false, false, 0⟩ from HDEF.out.trans (h1o h91 (amF (by omega))))
          have HF := hid (set4_blkT (e := ⟨1, false, false, 0⟩) HR1.out)
          have HBF := hid (set4_below (e := ⟨1, false, false, 0⟩) (Nat.le_refl w.heap.size) HB1.out)
          clear h91o h2o h1o HRS hz hj1e
          go_wp2_with fail
          (try simp only [Exit.inBlock, Exit.then])
          rw [HE.out]
          exact bodyPost_ret (results_cell_row rfl _ _ w.heap.size _ _ _ _ rfl HF.out Tryz.underlying76 rfl (by kernel_rfl)) rfl ⟨rfl, HBF.out⟩
      · obtain rfl : st = 1 := by omega
        have hpar := fun h => rs_par HRS.out hjs h
        have hk := fun h => rs_k HRS.out hjs h
        have hoth := @rs_oth t j
        have hwh := @rs_whole t j
        have hbr := @rs_broken t j
        generalize byt t j = c at *
        by_cases p32 : c < 32
        · skip
          have f0 : ¬ (32 : Int) ≤ c := by omega
          have f1 : c ≤ 47 := by omega
          have f2 : ¬ (48 : Int) ≤ c := by omega
          have f3 : c ≤ 63 := by omega
          have f4 : ¬ (64 : Int) ≤ c := by omega
          have f5 : c ≤ 95 := by omega
          have f6 : c ≤ 126 := by omega
          have HE := hid (show readE s k = ⟨j, false, false, 0⟩ from HDEF.out.trans (hbr (hk (amF (by omega))) hjs (amF (by omega)) (amF (by omega))))
          have HF := hid (set4_blkT (e := ⟨j, false, false, 0⟩) HR1.out)
          have HBF := hid (set4_below (e := ⟨j, false, false, 0⟩) (Nat.le_refl w.heap.size) HB1.out)
          (try clear hpar); (try clear hk); (try clear hoth); (try clear hwh); (try clear hbr); (try clear h91o); (try clear h2o); (try clear h1o)
          clear HRS hz hj1e hjs
          go_wp2_with fail
          (try simp only [Exit.inBlock, Exit.then])
          rw [HE.out]
          exact bodyPost_ret (results_cell_row rfl _ _ w.heap.size _ _ _ _ rfl HF.out Tryz.underlying76 rfl (by kernel_rfl)) rfl ⟨rfl, HBF.out⟩
        by_cases p48 : c < 48
        · skip
          have f0 : 32 ≤ c := by omega
          have f1 : c ≤ 47 := by omega
          have f2 : ¬ (48 : Int) ≤ c := by omega
          have f3 : c ≤ 63 := by omega
          have f4 : ¬ (64 : Int) ≤ c := by omega
          have f5 : c ≤ 95 := by omega
          have f6 : c ≤ 126 := by omega
          have HN := hid (hoth (hk (amF (by omega))) hjs (amT (by omega) (by omega)))
          (try clear hpar); (try clear hk); (try clear hoth); (try clear hwh); (try clear hbr); (try clear h91o); (try clear h2o); (try clear h1o)
          clear HRS hz hj1e hjs
          go_wp2_with fail
          go_roundg (n - (i + 1))
          case measure => omega
          case rel => exact ⟨j + 1, 2, i + 1, 2, (i : Int) + 1, rfl, rfl, rfl, by omega, by have := HI.out; omega, by omega, by omega, Nat.le_refl _, rfl, HN⟩
        by_cases p64 : c < 64
        · skip
          have f0 : 32 ≤ c := by omega
          have f1 : ¬ c ≤ (47 : Int) := by omega
          have f2 : 48 ≤ c := by omega
          have f3 : c ≤ 63 := by omega
          have f4 : ¬ (64 : Int) ≤ c := by omega
          have f5 : c ≤ 95 := by omega
          have f6 : c ≤ 126 := by omega
          have HN := hid (hpar (amT (by omega) (by omega)))
          (try clear hpar); (try clear hk); (try clear hoth); (try clear hwh); (try clear hbr); (try clear h91o); (try clear h2o); (try clear h1o)
          clear HRS hz hj1e hjs
          go_wp2_with fail
          go_roundg (n - (i + 1))
          case measure => omega
          case rel => exact ⟨j + 1, 1, i + 1, 1, (i : Int) + 1, rfl, rfl, rfl, by omega, by have := HI.out; omega, by omega, by omega, Nat.le_refl _, rfl, HN⟩
        by_cases p96 : c < 96
        · skip
          have f0 : 32 ≤ c := by omega
          have f1 : ¬ c ≤ (47 : Int) := by omega
          have f2 : 48 ≤ c := by omega
          have f3 : ¬ c ≤ (63 : Int) := by omega
          have f4 : 64 ≤ c := by omega
          have f5 : c ≤ 95 := by omega
          have f6 : c ≤ 126 := by omega
          have HE := hid (show readE s k = ⟨j + 1, true, false, c⟩ from HDEF.out.trans (hwh (hk (amF (by omega))) hjs (amF (by omega)) (amT (by omega) (by omega))))
          have HF := hid (set4_blkT (e := ⟨j + 1, true, false, c⟩) HR1.out)
          have HBF := hid (set4_below (e := ⟨j + 1, true, false, c⟩) (Nat.le_refl w.heap.size) HB1.out)
          (try clear hpar); (try clear hk); (try clear hoth); (try clear hwh); (try clear hbr); (try clear h91o); (try clear h2o); (try clear h1o)
          clear HRS hz hj1e hjs
          go_wp2_with fail
          (try simp only [Exit.inBlock, Exit.then])
          rw [HE.out]
          exact bodyPost_ret (results_cell_row rfl _ _ w.heap.size _ _ _ _ rfl HF.out Tryz.underlying76 rfl (by kernel_rfl)) rfl ⟨rfl, HBF.out⟩
        by_cases p127 : c < 127
        · skip
          have f0 : 32 ≤ c := by omega
          have f1 : ¬ c ≤ (47 : Int) := by omega
          have f2 : 48 ≤ c := by omega
          have f3 : ¬ c ≤ (63 : Int) := by omega
          have f4 : 64 ≤ c := by omega
          have f5 : ¬ c ≤ (95 : Int) := by omega
          have f6 : c ≤ 126 := by omega
          have HE := hid (show readE s k = ⟨j + 1, true, false, c⟩ from HDEF.out.trans (hwh (hk (amF (by omega))) hjs (amF (by omega)) (amT (by omega) (by omega))))
          have HF := hid (set4_blkT (e := ⟨j + 1, true, false, c⟩) HR1.out)
          have HBF := hid (set4_below (e := ⟨j + 1, true, false, c⟩) (Nat.le_refl w.heap.size) HB1.out)
          (try clear hpar); (try clear hk); (try clear hoth); (try clear hwh); (try clear hbr); (try clear h91o); (try clear h2o); (try clear h1o)
          clear HRS hz hj1e hjs
          go_wp2_with fail
          (try simp only [Exit.inBlock, Exit.then])
          rw [HE.out]
          exact bodyPost_ret (results_cell_row rfl _ _ w.heap.size _ _ _ _ rfl HF.out Tryz.underlying76 rfl (by kernel_rfl)) rfl ⟨rfl, HBF.out⟩
        have f0 : 32 ≤ c := by omega
        have f1 : ¬ c ≤ (47 : Int) := by omega
        have f2 : 48 ≤ c := by omega
        have f3 : ¬ c ≤ (63 : Int) := by omega
        have f4 : 64 ≤ c := by omega
        have f5 : ¬ c ≤ (95 : Int) := by omega
        have f6 : ¬ c ≤ (126 : Int) := by omega
        have HE := hid (show readE s k = ⟨j, false, false, 0⟩ from HDEF.out.trans (hbr (hk (amF (by omega))) hjs (amF (by omega)) (amF (by omega))))
        have HF := hid (set4_blkT (e := ⟨j, false, false, 0⟩) HR1.out)
        have HBF := hid (set4_below (e := ⟨j, false, false, 0⟩) (Nat.le_refl w.heap.size) HB1.out)
        (try clear hpar); (try clear hk); (try clear hoth); (try clear hwh); (try clear hbr); (try clear h91o); (try clear h2o); (try clear h1o)
        clear HRS hz hj1e hjs
        go_wp2_with fail
        (try simp only [Exit.inBlock, Exit.then])
        rw [HE.out]
        exact bodyPost_ret (results_cell_row rfl _ _ w.heap.size _ _ _ _ rfl HF.out Tryz.underlying76 rfl (by kernel_rfl)) rfl ⟨rfl, HBF.out⟩
      · obtain rfl : st = 2 := by omega
        have hpar := True.intro
        have hk := rs_two HRS.out
        have hoth := @rs_oth t j
        have hwh := @rs_whole t j
        have hbr := @rs_broken t j
        generalize byt t j = c at *
        by_cases p32 : c < 32
        · skip
          have f0 : ¬ (32 : Int) ≤ c := by omega
          have f1 : c ≤ 47 := by omega
          have f2 : ¬ (48 : Int) ≤ c := by omega
          have f3 : c ≤ 63 := by omega
          have f4 : ¬ (64 : Int) ≤ c := by omega
          have f5 : c ≤ 95 := by omega
          have f6 : c ≤ 126 := by omega
          have HE := hid (show readE s k = ⟨j, false, false, 0⟩ from HDEF.out.trans (hbr hk hjs (amF (by omega)) (amF (by omega))))
          have HF := hid (set4_blkT (e := ⟨j, false, false, 0⟩) HR1.out)
          have HBF := hid (set4_below (e := ⟨j, false, false, 0⟩) (Nat.le_refl w.heap.size) HB1.out)
          (try clear hpar); (try clear hk); (try clear hoth); (try clear hwh); (try clear hbr); (try clear h91o); (try clear h2o); (try clear h1o)
          clear HRS hz hj1e hjs
          go_wp2_with fail
          (try simp only [Exit.inBlock, Exit.then])
          rw [HE.out]
          exact bodyPost_ret (results_cell_row rfl _ _ w.heap.size _ _ _ _ rfl HF.out Tryz.underlying76 rfl (by kernel_rfl)) rfl ⟨rfl, HBF.out⟩
        by_cases p48 : c < 48
        · skip
          have f0 : 32 ≤ c := by omega
          have f1 : c ≤ 47 := by omega
          have f2 : ¬ (48 : Int) ≤ c := by omega
          have f3 : c ≤ 63 := by omega
          have f4 : ¬ (64 : Int) ≤ c := by omega
          have f5 : c ≤ 95 := by omega
          have f6 : c ≤ 126 := by omega
          have HN := hid (hoth hk hjs (amT (by omega) (by omega)))
          (try clear hpar); (try clear hk); (try clear hoth); (try clear hwh); (try clear hbr); (try clear h91o); (try clear h2o); (try clear h1o)
          clear HRS hz hj1e hjs
          go_wp2_with fail
          go_roundg (n - (i + 1))
          case measure => omega
          case rel => exact ⟨j + 1, 2, i + 1, 2, (i : Int) + 1, rfl, rfl, rfl, by omega, by have := HI.out; omega, by omega, by omega, Nat.le_refl _, rfl, HN⟩
        by_cases p64 : c < 64
        · skip
          have f0 : 32 ≤ c := by omega
          have f1 : ¬ c ≤ (47 : Int) := by omega
          have f2 : 48 ≤ c := by omega
          have f3 : c ≤ 63 := by omega
          have f4 : ¬ (64 : Int) ≤ c := by omega
          have f5 : c ≤ 95 := by omega
          have f6 : c ≤ 126 := by omega
          have HE := hid (show readE s k = ⟨j, false, false, 0⟩ from HDEF.out.trans (hbr hk hjs (amF (by omega)) (amF (by omega))))
          have HF := hid (set4_blkT (e := ⟨j, false, false, 0⟩) HR1.out)
          have HBF := hid (set4_below (e := ⟨j, false, false, 0⟩) (Nat.le_refl w.heap.size) HB1.out)
          (try clear hpar); (try clear hk); (try clear hoth); (try clear hwh); (try clear hbr); (try clear h91o); (try clear h2o); (try clear h1o)
          clear HRS hz hj1e hjs
          go_wp2_with fail
          (try simp only [Exit.inBlock, Exit.then])
          rw [HE.out]
          exact bodyPost_ret (results_cell_row rfl _ _ w.heap.size _ _ _ _ rfl HF.out Tryz.underlying76 rfl (by kernel_rfl)) rfl ⟨rfl, HBF.out⟩
        by_cases p96 : c < 96
        · skip
          have f0 : 32 ≤ c := by omega
          have f1 : ¬ c ≤ (47 : Int) := by omega
          have f2 : 48 ≤ c := by omega
          have f3 : ¬ c ≤ (63 : Int) := by omega
          have f4 : 64 ≤ c := by omega
          have f5 : c ≤ 95 := by omega
          have f6 : c ≤ 126 := by omega
          have HE := hid (show readE s k = ⟨j + 1, true, false, c⟩ from HDEF.out.trans (hwh hk hjs (amF (by omega)) (amT (by omega) (by omega))))
          have HF := hid (set4_blkT (e := ⟨j + 1, true, false, c⟩) HR1.out)
          have HBF := hid (set4_below (e := ⟨j + 1, true, false, c⟩) (Nat.le_refl w.heap.size) HB1.out)
          (try clear hpar); (try clear hk); (try clear hoth); (try clear hwh); (try clear hbr); (try clear h91o); (try clear h2o); (try clear h1o)
          clear HRS hz hj1e hjs
          go_wp2_with fail
          (try simp only [Exit.inBlock, Exit.then])
          rw [HE.out]
          exact bodyPost_ret (results_cell_row rfl _ _ w.heap.size _ _ _ _ rfl HF.out Tryz.underlying76 rfl (by kernel_rfl)) rfl ⟨rfl, HBF.out⟩
        by_cases p127 : c < 127
        · skip
          have f0 : 32 ≤ c := by omega
          have f1 : ¬ c ≤ (47 : Int) := by omega
          have f2 : 48 ≤ c := by omega
          have f3 : ¬ c ≤ (63 : Int) := by omega
          have f4 : 64 ≤ c := by omega
          have f5 : ¬ c ≤ (95 : Int) := by omega
          have f6 : c ≤ 126 := by omega
          have HE := hid (show readE s k = ⟨j + 1, true, false, c⟩ from HDEF.out.trans (hwh hk hjs (amF (by omega)) (amT (by omega) (by omega))))
          have HF := hid (set4_blkT (e := ⟨j + 1, true, false, c⟩) HR1.out)
          have HBF := hid (set4_below (e := ⟨j + 1, true, false, c⟩) (Nat.le_refl w.heap.size) HB1.out)
          (try clear hpar); (try clear hk); (try clear hoth); (try clear hwh); (try clear hbr); (try clear h91o); (try clear h2o); (try clear h1o)
          clear HRS hz hj1e hjs
          go_wp2_with fail
          (try simp only [Exit.inBlock, Exit.then])
          rw [HE.out]
          exact bodyPost_ret (results_cell_row rfl _ _ w.heap.size _ _ _ _ rfl HF.out Tryz.underlying76 rfl (by kernel_rfl)) rfl ⟨rfl, HBF.out⟩
        have f0 : 32 ≤ c := by omega
        have f1 : ¬ c ≤ (47 : Int) := by omega
        have f2 : 48 ≤ c := by omega
        have f3 : ¬ c ≤ (63 : Int) := by omega
        have f4 : 64 ≤ c := by omega
        have f5 : ¬ c ≤ (95 : Int) := by omega
        have f6 : ¬ c ≤ (126 : Int) := by omega
        have HE := hid (show readE s k = ⟨j, false, false, 0⟩ from HDEF.out.trans (hbr hk hjs (amF (by omega)) (amF (by omega))))
        have HF := hid (set4_blkT (e := ⟨j, false, false, 0⟩) HR1.out)
        have HBF := hid (set4_below (e := ⟨j, false, false, 0⟩) (Nat.le_refl w.heap.size) HB1.out)
        (try clear hpar); (try clear hk); (try clear hoth); (try clear hwh); (try clear hbr); (try clear h91o); (try clear h2o); (try clear h1o)
        clear HRS hz hj1e hjs
        go_wp2_with fail
        (try simp only [Exit.inBlock, Exit.then])
        rw [HE.out]
        exact bodyPost_ret (results_cell_row rfl _ _ w.heap.size _ _ _ _ rfl HF.out Tryz.underlying76 rfl (by kernel_rfl)) rfl ⟨rfl, HBF.out⟩
    · have hlt' : ¬ (i : Int) < (n : Int) := by omega
      have hnk : (n : Int) - (k : Int) = ((n - k : Nat) : Int) := by omega
      have HE := hid (show readE s k = ⟨n - k, false, true, 0⟩ by rw [HDEF.out, rs_end HRS.out (by have := HI.out; have := HTS.out; omega), HTS.out])
      have HF := hid (set4_blkT (e := ⟨n - k, false, true, 0⟩) HR1.out)
      have HBF := hid (set4_below (e := ⟨n - k, false, true, 0⟩) (Nat.le_refl w.heap.size) HB1.out)
      have HNK := hid hnk
      clear hz hij
      generalize n - k = d at *
      go_wp2_with fail
      (try simp only [Exit.inBlock, Exit.then])
      rw [HE.out]
      exact bodyPost_ret (results_cell_row rfl _ _ w.heap.size _ _ _ _ rfl HF.out Tryz.underlying76 rfl (by kernel_rfl)) rfl ⟨rfl, HBF.out⟩

end Go.Proofs.YtpnbkecchfhimaaGreatDoor
