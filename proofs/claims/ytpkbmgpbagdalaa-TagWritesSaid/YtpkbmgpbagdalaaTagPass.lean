/- Chapter 18: pass, with whatever closure. -/
import Derived.WalkKit
import Derived.BigQuiet
import Derived.Deep.QuietTactic
import Derived.Test.YtpkbmgpbagdalaaTagP
import Derived.Test.YtpkbmgpbagdalaaWords
import Derived.Lib.SlBytesRow
import Derived.Deep.LoopGhost
import Derived.Maps.AppendAt
namespace Go.Proofs.Ytpkbmgpbagdalaa
open Go.RowKit
open Go.Lib (hid)
set_option linter.unusedVariables false

/-- A byte, as a number. -/
def byt (s : ByteArray) (i : Nat) : Int := ((s.data.getD i 0).toNat : Int)
theorem bytes_cell {w : World} {b o : Nat} {s : ByteArray} (h : Lib.Bytes w b o s) {i : Nat} (hi : i < s.size) : w.cell? ⟨b, o + i, none⟩ = some (.int .u8 (byt s i)) := by
  rw [h i hi]
  unfold byt
  have : s.data.getD i 0 = s[i] := by
    rw [Array.getD_eq_getD_getElem?, Array.getElem?_eq_getElem (by simpa using hi)]
    rfl
  rw [this]

/-- Where the first byte stands, from i on, that is not so. -/
def passGo (p : Int → Bool) (s : ByteArray) : Nat → Nat → Nat
  | 0, i => i
  | k + 1, i => if p (byt s i) = true then passGo p s k (i + 1) else i
def passTo (p : Int → Bool) (s : ByteArray) (i : Nat) : Nat := passGo p s (s.size - i) i

theorem passTo_step {p : Int → Bool} {s : ByteArray} {i : Nat} (h : i < s.size) (hp : p (byt s i) = true) : passTo p s i = passTo p s (i + 1) := by
  unfold passTo
  rw [show s.size - i = (s.size - (i + 1)) + 1 by omega, passGo, if_pos hp]
theorem passTo_stop {p : Int → Bool} {s : ByteArray} {i : Nat} (h : i < s.size) (hp : p (byt s i) = false) : passTo p s i = i := by
  unfold passTo
  rw [show s.size - i = (s.size - (i + 1)) + 1 by omega, passGo, if_neg (by simp [hp])]
theorem passTo_end {p : Int → Bool} {s : ByteArray} {i : Nat} (h : s.size ≤ i) : passTo p s i = i := by
  unfold passTo
  rw [show s.size - i = 0 by omega, passGo]

theorem grown_set (w : World) (g i : Nat) (v : Value) : w.grownBy (w.setCell ⟨g, i, none⟩ v) (some g) :=
  ⟨rfl, rfl, rfl, by simp [World.setCell], fun k _ hne => Below.heap_setCell _ _ _ _ (fun e => hne (by rw [e]))⟩

set_option maxRecDepth 100000 in
set_option maxHeartbeats 4000000 in
theorem pass_any (T : TypeId) (g b off n cap i : Nat) (rest : List Value) (s : ByteArray) (hn : n = s.size) (hi : i ≤ n) (hcap : n ≤ cap) (hc63 : cap ≤ 9223372036854775807) (f : Nat) (cb : Array Value) (p : Int → Bool) (I : World → Prop) (w : World)
    (eg : ∀ args w, (callFunc f args).run Try.prog w = .ok (.enter f args) w)
    (hf : ∀ (W : World) (c : Int), I W → Calls Try.prog f (#[.int .u8 c] ++ cb) W fun e w' => e = .returned (.bool (p c)) ∧ w' = W)
    (hI : ∀ W', w.grownBy W' (some g) → I W')
    (hb : b ≠ g) (hbl : b < w.heap.size) (hz : Lib.Bytes w b off s) (hblk : Blk w g T (.slice (some ⟨b, off, none⟩) n cap :: .int .i64 i :: rest).toArray) :
    Calls Try.prog 31 #[.pointer (some ⟨g, 0, none⟩), .func (.func f) #[] cb] w fun e w' =>
      e = .returned (.string (s.extract i (passTo p s i))) ∧ w.grownBy w' (some g) ∧ Blk w' g T (.slice (some ⟨b, off, none⟩) n cap :: .int .i64 (passTo p s i : Nat) :: rest).toArray := by
  have HF := hid hf
  have HI := hid hI
  have HZ := hid hz
  have HBK := hid hblk
  have HN := hid hn
  have c0 := hblk.cell 0
  have c1 := hblk.cell 1
  have fr := hblk.frozen
  simp only [List.getElem?_toArray, List.getElem?_cons_zero, List.getElem?_cons_succ] at c0 c1
  clear hf hI hz hblk hn
  go_enter Try.func31, Try.ntmps31
  go_wp2_with fail
  clear c0 c1 fr
  have hcv : ∀ (j : Nat) (W : World), i ≤ j → j ≤ n → w.grownBy W (some g) → ∀ N cap', (convert 22 9 (.slice (some ⟨b, off + i, none⟩) (j - i) cap')).run Try.prog (W.drewN N) = .ok (.string (s.extract i j)) (W.drewN N) := by
    intro j W hij hj hG N cap'
    have hW : Lib.Bytes W b off s := fun k hk => by
      rw [World.cell?_of_block (hG.block b hbl (fun e => hb (Option.some.inj e)))]
      exact HZ.out k hk
    have := Lib.run_convert_window (P := Try.prog) (W.drewN N) 22 5 9 Try.underlying22 Try.underlying5 Try.underlying9 b off s (hW.drewN N) i (j - i) cap' (by have := HN.out; omega)
    rwa [show i + (j - i) = j by omega] at this
  have HCV := hid hcv
  clear hcv
  go_loopg [11] n (fun kx s11 wr => ∃ (j : Nat), i ≤ j ∧ j ≤ n ∧ n - j ≤ kx ∧ Hid (passTo p s j = passTo p s i) ∧ Hid (w.grownBy wr (some g)) ∧ Hid (Blk wr g T (.slice (some ⟨b, off, none⟩) n cap :: .int .i64 j :: rest).toArray))
  case atStart => exact ⟨i, Nat.le_refl _, hi, by omega, rfl, World.grownBy.refl _ _, HBK.out⟩
  case round =>
    obtain ⟨j, hij, hj, hg, HP, HG, HB⟩ := hrel
    have c0 := HB.out.cell 0
    have c1 := HB.out.cell 1
    have fr := HB.out.frozen
    simp only [List.getElem?_toArray, List.getElem?_cons_zero, List.getElem?_cons_succ] at c0 c1
    have hov := fun N => over_any g b off n cap j (wr.drewN N) ⟨c0, c1⟩
    have HOV := hid hov
    clear hov
    by_cases hlt : j < n
    · have hlt' : (j : Int) < (n : Int) := by omega
      have hd : decide (n ≤ j) = false := by simp; omega
      have hcell : wr.cell? ⟨b, off + j, none⟩ = some (.int .u8 (byt s j)) := by
        rw [World.cell?_of_block (HG.out.block b hbl (fun e => hb (Option.some.inj e)))]
        exact bytes_cell HZ.out (by have := HN.out; omega)
      generalize hcb : byt s j = c at *
      have HCB := hid hcb
      have hfc := fun N => HF.out (wr.drewN N) c (HI.out _ (HG.out.trans ⟨rfl, rfl, rfl, Nat.le_refl _, fun _ _ _ => rfl⟩))
      clear hcb
      rw [hd] at HOV
      clear hd
      cases hp : p c
      · rw [hp] at hfc
        have HFC := hid hfc
        have HPC := hid hp
        clear hfc hp
        go_wp2_with fail
        go_quiet (first | (go_at_call 48; exact Calls.quiet_of (HOV.out _)) | (go_at_fn f; exact Calls.quiet_of_same (HFC.out _)))
        have hcv := HCV.out j wr hij hj HG.out
        have HCV2 := hid hcv
        clear hcell
        go_wp2_with fail
        go_quiet (fail)
        have hst : passTo p s i = j := by
          rw [← HP.out]
          exact passTo_stop (by have := HN.out; omega) (by rw [HCB.out]; exact HPC.out)
        go_wp2_with fail
        go_ret
        rw [hst]
        exact ⟨rfl, HG.out.trans ⟨rfl, rfl, rfl, Nat.le_refl _, fun _ _ _ => rfl⟩, HB.out⟩
      · rw [hp] at hfc
        have HFC := hid hfc
        have HPC := hid hp
        have hj1 : (j : Int) + 1 ≤ 9223372036854775807 := by omega
        clear hfc hp
        go_wp2_with fail
        go_quiet (first | (go_at_call 48; exact Calls.quiet_of (HOV.out _)) | (go_at_fn f; exact Calls.quiet_of_same (HFC.out _)))
        go_wp2_with fail
        go_roundg (n - (j + 1))
        case measure => omega
        case rel =>
          refine ⟨j + 1, by omega, by omega, Nat.le_refl _, ?_, ?_, ?_⟩
          · show _ = _
            rw [← passTo_step (by have := HN.out; omega) (by rw [HCB.out]; exact HPC.out)]
            exact HP.out
          · exact (HG.out.trans (⟨rfl, rfl, rfl, Nat.le_refl _, fun _ _ _ => rfl⟩ : wr.grownBy (wr.drewN nq) (some g))).trans (grown_set _ _ _ _)
          · have h9 := (HB.out.drewN nq).set_ 1 (.int .i64 ((j + 1 : Nat) : Int))
            show Blk _ _ _ _
            simpa using h9
    · have hlt' : ¬ (j : Int) < (n : Int) := by omega
      have hd : decide (n ≤ j) = true := by simp; omega
      rw [hd] at HOV
      clear hd
      have hst : passTo p s i = j := by
        rw [← HP.out]
        exact passTo_end (by have := HN.out; omega)
      have hcv := HCV.out j wr hij hj HG.out
      by_cases hic : cap = i
      · obtain rfl : j = i := by omega
        have hcv0 : ∀ N, (convert 22 9 (.slice (some ⟨b, off, none⟩) 0 0)).run Try.prog (wr.drewN N) = .ok (.string (s.extract j j)) (wr.drewN N) := by
          intro N
          have := Lib.run_convert_window (P := Try.prog) (wr.drewN N) 22 5 9 Try.underlying22 Try.underlying5 Try.underlying9 b off ByteArray.empty (fun k hk => absurd hk (by simp)) 0 0 0 (by simp)
          have he : s.extract j j = ByteArray.empty.extract 0 (0 + 0) := by
            apply ByteArray.ext
            simp
          rw [he]
          exact this
        have hemp : s.extract j j = ByteArray.empty := by
          apply ByteArray.ext
          simp
        have HE := hid hemp
        clear hemp
        have HST := hid hst
        clear hst hcv
        go_wp2_with fail
        go_quiet (first | (go_at_call 48; exact Calls.quiet_of (HOV.out _)))
        go_wp2_with fail
        go_quiet (fail)
        go_wp2_with fail
        go_ret
        rw [HST.out]
        exact ⟨congrArg (fun x => Ending.returned (Value.string x)) HE.out.symm, HG.out.trans ⟨rfl, rfl, rfl, Nat.le_refl _, fun _ _ _ => rfl⟩, HB.out⟩
      · have HST := hid hst
        clear hst
        go_wp2_with fail
        go_quiet (first | (go_at_call 48; exact Calls.quiet_of (HOV.out _)))
        go_wp2_with fail
        go_quiet (fail)
        go_wp2_with fail
        go_ret
        rw [HST.out]
        exact ⟨rfl, HG.out.trans ⟨rfl, rfl, rfl, Nat.le_refl _, fun _ _ _ => rfl⟩, HB.out⟩
end Go.Proofs.Ytpkbmgpbagdalaa
