/- Texts of an earlier chapter (Tg), merged by a program of mine. -/
import Derived.Test.YtpnbkecchfhimaaGreatDoorBase
import Derived.Test.YtpnbkecchfhimaaGreatDoorMem
import Derived.Test.YtpnbkecchfhimaaGreatDoorWords
import Derived.Test.YtpnbkecchfhimaaGreatDoorOpen
import Derived.Test.YtpnbkecchfhimaaGreatDoorByt
import Derived.Test.YtpnbkecchfhimaaGreatDoorInv
import Derived.Test.YtpnbkecchfhimaaGreatDoorTkShelf
import Derived.BigQuiet
import Derived.BigRegion
import Derived.Deep.DeepCutAuto
import Derived.Deep.LoopGhost
import Derived.Deep.QuietTactic
import Derived.Deep.RegionWith
import Derived.Laws.CopyOwn
import Derived.Laws.Tables
import Derived.Lib.ConvBytes
import Derived.Lib.IndexMore
import Derived.Lib.SlBytesConst
import Derived.Lib.SlBytesRow
import Derived.Maps.AppendAt
import Derived.WalkKit
/- out of TagP -/
namespace Go.Proofs.YtpnbkecchfhimaaGreatDoor
set_option maxRecDepth 100000
open Go.RowKit
open Go.Lib (hid)
set_option linter.unusedVariables false

/-- A reader's place: its bytes, and where it stands. -/
def PlaceAt (w : World) (g : Nat) (b off n cap i : Nat) : Prop := w.cell? ⟨g, 0, none⟩ = some (.slice (some ⟨b, off, none⟩) n cap) ∧ w.cell? ⟨g, 1, none⟩ = some (.int .i64 i)

theorem over_any (g b off n cap i : Nat) (w : World) (h : PlaceAt w g b off n cap i) : Calls Tryz.prog 176 #[.pointer (some ⟨g, 0, none⟩)] w fun e w' => e = .returned (.bool (decide (n ≤ i))) ∧ ∃ q, w' = w.drewN q := by
  obtain ⟨h1, h2⟩ := h
  by_cases hlt : n ≤ i
  · have hlt' : (n : Int) ≤ (i : Int) := by omega
    go_enter Tryz.func176, Tryz.ntmps176
    go_wp2_with fail
    go_quiet (fail)
    go_wp2_with fail
    go_ret
    exact ⟨ret_bool (by simp [hlt]), _, rfl⟩
  · have hlt' : ¬ (n : Int) ≤ (i : Int) := by omega
    go_enter Tryz.func176, Tryz.ntmps176
    go_wp2_with fail
    go_quiet (fail)
    go_wp2_with fail
    go_ret
    exact ⟨ret_bool (by simp [hlt]), _, rfl⟩

theorem peek_in (g b off n cap i : Nat) (c : Int) (w : World) (h : PlaceAt w g b off n cap i) (hlt : i < n) (hc : w.cell? ⟨b, off + i, none⟩ = some (.int .u8 c)) :
    Calls Tryz.prog 178 #[.pointer (some ⟨g, 0, none⟩)] w fun e w' => e = .returned (.int .u8 c) ∧ ∃ q, w' = w.drewN q := by
  obtain ⟨h1, h2⟩ := h
  have hlt' : (i : Int) < (n : Int) := by omega
  go_enter Tryz.func178, Tryz.ntmps178
  go_wp2_with fail
  go_quiet (fail)
  go_wp2_with fail
  go_quiet (fail)
  go_wp2_with fail
  go_ret
  exact ⟨rfl, _, World.drewN_drewN ..⟩

theorem peek_out (g b off n cap i : Nat) (w : World) (h : PlaceAt w g b off n cap i) (hlt : ¬ i < n) :
    Calls Tryz.prog 178 #[.pointer (some ⟨g, 0, none⟩)] w fun e w' => e = .returned (.int .u8 0) ∧ ∃ q, w' = w.drewN q := by
  obtain ⟨h1, h2⟩ := h
  have hlt' : ¬ (i : Int) < (n : Int) := by omega
  go_enter Tryz.func178, Tryz.ntmps178
  go_wp2_with fail
  go_quiet (fail)
  go_wp2_with fail
  go_ret
  exact ⟨rfl, _, rfl⟩

end Go.Proofs.YtpnbkecchfhimaaGreatDoor

/- out of TagPass -/
namespace Go.Proofs.YtpnbkecchfhimaaGreatDoor
set_option maxRecDepth 100000
open Go.RowKit
open Go.Lib (hid)
set_option linter.unusedVariables false

set_option maxRecDepth 100000 in
set_option maxHeartbeats 4000000 in
theorem pass_any (T : TypeId) (g b off n cap i : Nat) (rest : List Value) (s : ByteArray) (hn : n = s.size) (hi : i ≤ n) (hcap : n ≤ cap) (hc63 : cap ≤ 9223372036854775807) (f : Nat) (cb : Array Value) (p : Int → Bool) (I : World → Prop) (w : World)
    (eg : ∀ args w, (callFunc f args).run Tryz.prog w = .ok (.enter f args) w)
    (hf : ∀ (W : World) (c : Int), I W → Calls Tryz.prog f (#[.int .u8 c] ++ cb) W fun e w' => e = .returned (.bool (p c)) ∧ w' = W)
    (hI : ∀ W', w.grownBy W' (some g) → I W')
    (hb : b ≠ g) (hbl : b < w.heap.size) (hz : Lib.Bytes w b off s) (hblk : Blk w g T (.slice (some ⟨b, off, none⟩) n cap :: .int .i64 i :: rest).toArray) :
    Calls Tryz.prog 131 #[.pointer (some ⟨g, 0, none⟩), .func (.func f) #[] cb] w fun e w' =>
      e = .returned (.string (s.extract i (passTo p s i))) ∧ w.grownBy w' (some g) ∧ Blk w' g T (.slice (some ⟨b, off, none⟩) n cap :: .int .i64 (passTo p s i : Nat) :: rest).toArray := by
  have HF := hid hf
  have HI := hid hI
  have HZ := hid hz
  have HBK := hid hblk
  have HN := hid hn
  have c0 := hblk.cell 0
  have c1 := hblk.cell 1
  have fr := hblk.frozen
  simp only [List.getElem?_toArray, List.getElem?_cons_zero, List.getElem?_cons_succ] at c0 c1
  clear hf hI hz hblk hn
  go_enter Tryz.func131, Tryz.ntmps131
  go_wp2_with fail
  clear c0 c1 fr
  have hcv : ∀ (j : Nat) (W : World), i ≤ j → j ≤ n → w.grownBy W (some g) → ∀ N cap', (convert 22 9 (.slice (some ⟨b, off + i, none⟩) (j - i) cap')).run Tryz.prog (W.drewN N) = .ok (.string (s.extract i j)) (W.drewN N) := by
    intro j W hij hj hG N cap'
    have hW : Lib.Bytes W b off s := fun k hk => by
      rw [World.cell?_of_block (hG.block b hbl (fun e => hb (Option.some.inj e)))]
      exact HZ.out k hk
    have := Lib.run_convert_window (P := Tryz.prog) (W.drewN N) 22 5 9 Tryz.underlying22 Tryz.underlying5 Tryz.underlying9 b off s (hW.drewN N) i (j - i) cap' (by have := HN.out; omega)
    rwa [show i + (j - i) = j by omega] at this
  have HCV := hid hcv
  clear hcv
  go_loopg [11] n (fun kx s11 wr => ∃ (j : Nat), i ≤ j ∧ j ≤ n ∧ n - j ≤ kx ∧ Hid (passTo p s j = passTo p s i) ∧ Hid (w.grownBy wr (some g)) ∧ Hid (Blk wr g T (.slice (some ⟨b, off, none⟩) n cap :: .int .i64 j :: rest).toArray))
  case atStart => exact ⟨i, Nat.le_refl _, hi, by omega, rfl, World.grownBy.refl _ _, HBK.out⟩
  case round =>
    obtain ⟨j, hij, hj, hg, HP, HG, HB⟩ := hrel
    have c0 := HB.out.cell 0
    have c1 := HB.out.cell 1
    have fr := HB.out.frozen
    simp only [List.getElem?_toArray, List.getElem?_cons_zero, List.getElem?_cons_succ] at c0 c1
    have hov := fun N => over_any g b off n cap j (wr.drewN N) ⟨c0, c1⟩
    have HOV := hid hov
    clear hov
    by_cases hlt : j < n
    · have hlt' : (j : Int) < (n : Int) := by omega
      have hd : decide (n ≤ j) = false := by simp; omega
      have hcell : wr.cell? ⟨b, off + j, none⟩ = some (.int .u8 (byt s j)) := by
        rw [World.cell?_of_block (HG.out.block b hbl (fun e => hb (Option.some.inj e)))]
        exact bytes_cell HZ.out (by have := HN.out; omega)
      generalize hcb : byt s j = c at *
      have HCB := hid hcb
      have hfc := fun N => HF.out (wr.drewN N) c (HI.out _ (HG.out.trans ⟨rfl, rfl, rfl, Nat.le_refl _, fun _ _ _ => rfl⟩))
      clear hcb
      rw [hd] at HOV
      clear hd
      cases hp : p c
      · rw [hp] at hfc
        have HFC := hid hfc
        have HPC := hid hp
        clear hfc hp
        go_wp2_with fail
        go_quiet (first | (go_at_call 176; exact Calls.quiet_of (HOV.out _)) | (go_at_fn f; exact Calls.quiet_of_same (HFC.out _)))
        have hcv := HCV.out j wr hij hj HG.out
        have HCV2 := hid hcv
        clear hcell
        go_wp2_with fail
        go_quiet (fail)
        have hst : passTo p s i = j := by
          rw [← HP.out]
          exact passTo_stop (by have := HN.out; omega) (by rw [HCB.out]; exact HPC.out)
        go_wp2_with fail
        go_ret
        rw [hst]
        exact ⟨rfl, HG.out.trans ⟨rfl, rfl, rfl, Nat.le_refl _, fun _ _ _ => rfl⟩, HB.out⟩
      · rw [hp] at hfc
        have HFC := hid hfc
        have HPC := hid hp
        have hj1 : (j : Int) + 1 ≤ 9223372036854775807 := by omega
        clear hfc hp
        go_wp2_with fail
        go_quiet (first | (go_at_call 176; exact Calls.quiet_of (HOV.out _)) | (go_at_fn f; exact Calls.quiet_of_same (HFC.out _)))
        go_wp2_with fail
        go_roundg (n - (j + 1))
        case measure => omega
        case rel =>
          refine ⟨j + 1, by omega, by omega, Nat.le_refl _, ?_, ?_, ?_⟩
          · show _ = _
            rw [← passTo_step (by have := HN.out; omega) (by rw [HCB.out]; exact HPC.out)]
            exact HP.out
          · exact (HG.out.trans (⟨rfl, rfl, rfl, Nat.le_refl _, fun _ _ _ => rfl⟩ : wr.grownBy (wr.drewN nq) (some g))).trans (grown_set _ _ _ _)
          · have h9 := (HB.out.drewN nq).set_ 1 (.int .i64 ((j + 1 : Nat) : Int))
            show Blk _ _ _ _
            simpa using h9
    · have hlt' : ¬ (j : Int) < (n : Int) := by omega
      have hd : decide (n ≤ j) = true := by simp; omega
      rw [hd] at HOV
      clear hd
      have hst : passTo p s i = j := by
        rw [← HP.out]
        exact passTo_end (by have := HN.out; omega)
      have hcv := HCV.out j wr hij hj HG.out
      by_cases hic : cap = i
      · obtain rfl : j = i := by omega
        have hcv0 : ∀ N, (convert 22 9 (.slice (some ⟨b, off, none⟩) 0 0)).run Tryz.prog (wr.drewN N) = .ok (.string (s.extract j j)) (wr.drewN N) := by
          intro N
          have := Lib.run_convert_window (P := Tryz.prog) (wr.drewN N) 22 5 9 Tryz.underlying22 Tryz.underlying5 Tryz.underlying9 b off ByteArray.empty (fun k hk => absurd hk (by simp)) 0 0 0 (by simp)
          have he : s.extract j j = ByteArray.empty.extract 0 (0 + 0) := by
            apply ByteArray.ext
            simp
          rw [he]
          exact this
        have hemp : s.extract j j = ByteArray.empty := by
          apply ByteArray.ext
          simp
        have HE := hid hemp
        clear hemp
        have HST := hid hst
        clear hst hcv
        go_wp2_with fail
        go_quiet (first | (go_at_call 176; exact Calls.quiet_of (HOV.out _)))
        go_wp2_with fail
        go_quiet (fail)
        go_wp2_with fail
        go_ret
        rw [HST.out]
        exact ⟨congrArg (fun x => Ending.returned (Value.string x)) HE.out.symm, HG.out.trans ⟨rfl, rfl, rfl, Nat.le_refl _, fun _ _ _ => rfl⟩, HB.out⟩
      · have HST := hid hst
        clear hst
        go_wp2_with fail
        go_quiet (first | (go_at_call 176; exact Calls.quiet_of (HOV.out _)))
        go_wp2_with fail
        go_quiet (fail)
        go_wp2_with fail
        go_ret
        rw [HST.out]
        exact ⟨rfl, HG.out.trans ⟨rfl, rfl, rfl, Nat.le_refl _, fun _ _ _ => rfl⟩, HB.out⟩

end Go.Proofs.YtpnbkecchfhimaaGreatDoor

/- out of TagB -/
namespace Go.Proofs.YtpnbkecchfhimaaGreatDoor
set_option maxRecDepth 100000
open Go.RowKit
open Go.Lib (hid)
set_option linter.unusedVariables false

def blankB (c : Int) : Bool := c == 9 || c == 10 || c == 12 || c == 13 || c == 32
def letterB (c : Int) : Bool := decide (65 ≤ c ∧ c ≤ 90) || decide (97 ≤ c ∧ c ≤ 122)
def digitB (c : Int) : Bool := decide (48 ≤ c ∧ c ≤ 57)

theorem blank_any (c : Int) (w : World) : Calls Tryz.prog 133 #[.int .u8 c] w fun e w' => e = .returned (.bool (blankB c)) ∧ w' = w := by
  unfold blankB
  by_cases h1 : c = 9
  · subst h1; go_enter Tryz.func133, Tryz.ntmps133; go_wp2; go_ret; exact ⟨rfl, rfl⟩
  by_cases h2 : c = 10
  · subst h2; go_enter Tryz.func133, Tryz.ntmps133; go_wp2; go_ret; exact ⟨rfl, rfl⟩
  by_cases h3 : c = 12
  · subst h3; go_enter Tryz.func133, Tryz.ntmps133; go_wp2; go_ret; exact ⟨rfl, rfl⟩
  by_cases h4 : c = 13
  · subst h4; go_enter Tryz.func133, Tryz.ntmps133; go_wp2; go_ret; exact ⟨rfl, rfl⟩
  by_cases h5 : c = 32
  · subst h5; go_enter Tryz.func133, Tryz.ntmps133; go_wp2; go_ret; exact ⟨rfl, rfl⟩
  have g1 : (c == 9) = false := by simpa using h1
  have g2 : (c == 10) = false := by simpa using h2
  have g3 : (c == 12) = false := by simpa using h3
  have g4 : (c == 13) = false := by simpa using h4
  have g5 : (c == 32) = false := by simpa using h5
  go_enter Tryz.func133, Tryz.ntmps133
  go_wp2
  go_ret
  exact ⟨ret_bool (by simp [h1, h2, h3, h4, h5]), rfl⟩

theorem refblank_any (c : Int) (w : World) : Calls Tryz.prog 69 #[.int .u8 c] w fun e w' => e = .returned (.bool (blankB c)) ∧ w' = w := by
  unfold blankB
  by_cases h1 : c = 9
  · subst h1; go_enter Tryz.func69, Tryz.ntmps69; go_wp2; go_ret; exact ⟨rfl, rfl⟩
  by_cases h2 : c = 10
  · subst h2; go_enter Tryz.func69, Tryz.ntmps69; go_wp2; go_ret; exact ⟨rfl, rfl⟩
  by_cases h3 : c = 12
  · subst h3; go_enter Tryz.func69, Tryz.ntmps69; go_wp2; go_ret; exact ⟨rfl, rfl⟩
  by_cases h4 : c = 13
  · subst h4; go_enter Tryz.func69, Tryz.ntmps69; go_wp2; go_ret; exact ⟨rfl, rfl⟩
  by_cases h5 : c = 32
  · subst h5; go_enter Tryz.func69, Tryz.ntmps69; go_wp2; go_ret; exact ⟨rfl, rfl⟩
  have g1 : (c == 9) = false := by simpa using h1
  have g2 : (c == 10) = false := by simpa using h2
  have g3 : (c == 12) = false := by simpa using h3
  have g4 : (c == 13) = false := by simpa using h4
  have g5 : (c == 32) = false := by simpa using h5
  go_enter Tryz.func69, Tryz.ntmps69
  go_wp2
  go_ret
  exact ⟨ret_bool (by simp [h1, h2, h3, h4, h5]), rfl⟩

theorem letter_any (c : Int) (w : World) : Calls Tryz.prog 93 #[.int .u8 c] w fun e w' => e = .returned (.bool (letterB c)) ∧ w' = w := by
  unfold letterB
  by_cases h1 : 65 ≤ c <;> by_cases h2 : c ≤ 90 <;> by_cases h3 : 97 ≤ c <;> by_cases h4 : c ≤ 122 <;>
    (first | omega | (go_enter Tryz.func93, Tryz.ntmps93; go_wp2; go_ret; exact ⟨ret_bool (by simp [h1, h2, h3, h4]), rfl⟩))
theorem refletter_any (c : Int) (w : World) : Calls Tryz.prog 72 #[.int .u8 c] w fun e w' => e = .returned (.bool (letterB c)) ∧ w' = w := by
  unfold letterB
  by_cases h1 : 65 ≤ c <;> by_cases h2 : c ≤ 90 <;> by_cases h3 : 97 ≤ c <;> by_cases h4 : c ≤ 122 <;>
    (first | omega | (go_enter Tryz.func72, Tryz.ntmps72; go_wp2; go_ret; exact ⟨ret_bool (by simp [h1, h2, h3, h4]), rfl⟩))
end Go.Proofs.YtpnbkecchfhimaaGreatDoor

/- out of TagC -/
namespace Go.Proofs.YtpnbkecchfhimaaGreatDoor
set_option maxRecDepth 100000
open Go.RowKit
open Go.Lib (hid)
set_option linter.unusedVariables false

def nameC (c : Int) : Bool := !blankB c && c != 47 && c != 62
def skipC (c : Int) : Bool := blankB c || c == 47
def attrC (c : Int) : Bool := !blankB c && c != 47 && c != 62 && c != 61
def valC (c : Int) : Bool := !blankB c && c != 62

theorem named1_any (c : Int) (w : World) : Calls Tryz.prog 132 #[.int .u8 c] w fun e w' => e = .returned (.bool (!blankB c && c != 47 && c != 62)) ∧ w' = w := by
  have hbl := blank_any c
  have HB := hid hbl
  clear hbl
  by_cases h47 : c = 47
  · subst h47; simp only [show blankB 47 = false from rfl] at HB ⊢; go_enter Tryz.func132, Tryz.ntmps132; go_wp2_with fail; refine (HB.out _).mono ?_; rintro e w1 ⟨rfl, rfl⟩; go_wp2_with fail; go_ret; exact ⟨rfl, rfl⟩
  have g47 : (c == 47) = false := by simpa using h47
  have n47 : (c != 47) = true := by simpa using h47
  by_cases h62 : c = 62
  · subst h62; simp only [show blankB 62 = false from rfl] at HB ⊢; go_enter Tryz.func132, Tryz.ntmps132; go_wp2_with fail; refine (HB.out _).mono ?_; rintro e w1 ⟨rfl, rfl⟩; go_wp2_with fail; go_ret; exact ⟨rfl, rfl⟩
  have g62 : (c == 62) = false := by simpa using h62
  have n62 : (c != 62) = true := by simpa using h62
  cases hb : blankB c
  all_goals
    rw [hb] at HB
    clear hb
    go_enter Tryz.func132, Tryz.ntmps132
    go_wp2_with fail
    refine (HB.out _).mono ?_
    rintro e w1 ⟨rfl, rfl⟩
    go_wp2_with fail
    go_ret
    exact ⟨ret_bool (by simp [h47, h62]), rfl⟩

theorem rest1_any (c : Int) (w : World) : Calls Tryz.prog 177 #[.int .u8 c] w fun e w' => e = .returned (.bool (blankB c || c == 47)) ∧ w' = w := by
  have hbl := blank_any c
  have HB := hid hbl
  clear hbl
  by_cases h47 : c = 47
  · subst h47; simp only [show blankB 47 = false from rfl] at HB ⊢; go_enter Tryz.func177, Tryz.ntmps177; go_wp2_with fail; refine (HB.out _).mono ?_; rintro e w1 ⟨rfl, rfl⟩; go_wp2_with fail; go_ret; exact ⟨rfl, rfl⟩
  have g47 : (c == 47) = false := by simpa using h47
  have n47 : (c != 47) = true := by simpa using h47
  cases hb : blankB c
  all_goals
    rw [hb] at HB
    clear hb
    go_enter Tryz.func177, Tryz.ntmps177
    go_wp2_with fail
    refine (HB.out _).mono ?_
    rintro e w1 ⟨rfl, rfl⟩
    go_wp2_with fail
    go_ret
    exact ⟨ret_bool (by simp [h47]), rfl⟩

theorem attr1_any (c : Int) (w : World) : Calls Tryz.prog 213 #[.int .u8 c] w fun e w' => e = .returned (.bool (!blankB c && c != 47 && c != 62 && c != 61)) ∧ w' = w := by
  have hbl := blank_any c
  have HB := hid hbl
  clear hbl
  by_cases h47 : c = 47
  · subst h47; simp only [show blankB 47 = false from rfl] at HB ⊢; go_enter Tryz.func213, Tryz.ntmps213; go_wp2_with fail; refine (HB.out _).mono ?_; rintro e w1 ⟨rfl, rfl⟩; go_wp2_with fail; go_ret; exact ⟨rfl, rfl⟩
  have g47 : (c == 47) = false := by simpa using h47
  have n47 : (c != 47) = true := by simpa using h47
  by_cases h62 : c = 62
  · subst h62; simp only [show blankB 62 = false from rfl] at HB ⊢; go_enter Tryz.func213, Tryz.ntmps213; go_wp2_with fail; refine (HB.out _).mono ?_; rintro e w1 ⟨rfl, rfl⟩; go_wp2_with fail; go_ret; exact ⟨rfl, rfl⟩
  have g62 : (c == 62) = false := by simpa using h62
  have n62 : (c != 62) = true := by simpa using h62
  by_cases h61 : c = 61
  · subst h61; simp only [show blankB 61 = false from rfl] at HB ⊢; go_enter Tryz.func213, Tryz.ntmps213; go_wp2_with fail; refine (HB.out _).mono ?_; rintro e w1 ⟨rfl, rfl⟩; go_wp2_with fail; go_ret; exact ⟨rfl, rfl⟩
  have g61 : (c == 61) = false := by simpa using h61
  have n61 : (c != 61) = true := by simpa using h61
  cases hb : blankB c
  all_goals
    rw [hb] at HB
    clear hb
    go_enter Tryz.func213, Tryz.ntmps213
    go_wp2_with fail
    refine (HB.out _).mono ?_
    rintro e w1 ⟨rfl, rfl⟩
    go_wp2_with fail
    go_ret
    exact ⟨ret_bool (by simp [h47, h62, h61]), rfl⟩

theorem value1_any (c : Int) (w : World) : Calls Tryz.prog 235 #[.int .u8 c] w fun e w' => e = .returned (.bool (!blankB c && c != 62)) ∧ w' = w := by
  have hbl := blank_any c
  have HB := hid hbl
  clear hbl
  by_cases h62 : c = 62
  · subst h62; simp only [show blankB 62 = false from rfl] at HB ⊢; go_enter Tryz.func235, Tryz.ntmps235; go_wp2_with fail; refine (HB.out _).mono ?_; rintro e w1 ⟨rfl, rfl⟩; go_wp2_with fail; go_ret; exact ⟨rfl, rfl⟩
  have g62 : (c == 62) = false := by simpa using h62
  have n62 : (c != 62) = true := by simpa using h62
  cases hb : blankB c
  all_goals
    rw [hb] at HB
    clear hb
    go_enter Tryz.func235, Tryz.ntmps235
    go_wp2_with fail
    refine (HB.out _).mono ?_
    rintro e w1 ⟨rfl, rfl⟩
    go_wp2_with fail
    go_ret
    exact ⟨ret_bool (by simp [h62]), rfl⟩

theorem quoted1_any (c q : Int) (g : Nat) (w : World) (h : w.cell? ⟨g, 0, none⟩ = some (.int .u8 q)) : Calls Tryz.prog 249 #[.int .u8 c, .pointer (some ⟨g, 0, none⟩)] w fun e w' => e = .returned (.bool (c != q)) ∧ w' = w := by
  go_enter Tryz.func249, Tryz.ntmps249
  go_wp2
  go_ret
  exact ⟨rfl, rfl⟩

end Go.Proofs.YtpnbkecchfhimaaGreatDoor

/- out of TagV -/
namespace Go.Proofs.YtpnbkecchfhimaaGreatDoor
set_option maxRecDepth 100000
open Go.RowKit
open Go.Lib (hid)
set_option linter.unusedVariables false

/-- A value in quotes whose quote stands at i: its text, and where what is behind it begins. -/
def quotedV (q : Int) (s : ByteArray) (i : Nat) : ByteArray × Nat :=
  let j := passTo (fun c => c != q) s (i + 1)
  (s.extract (i + 1) j, if j < s.size then j + 1 else j)
/-- A value whose = stands at i. -/
def valueV (s : ByteArray) (i : Nat) : ByteArray × Nat :=
  let k := passTo blankB s (i + 1)
  if k < s.size ∧ (byt s k = 34 ∨ byt s k = 39) then quotedV (byt s k) s k
  else (s.extract k (passTo valC s k), passTo valC s k)

set_option maxRecDepth 100000 in
set_option maxHeartbeats 4000000 in
theorem quoted_any (T : TypeId) (g b off n cap i : Nat) (q : Int) (rest : List Value) (s : ByteArray) (hn : n = s.size) (hi : i < n) (hcap : n ≤ cap) (hc63 : cap ≤ 9223372036854775807) (w : World)
    (hb : b ≠ g) (hbl : b < w.heap.size) (hz : Lib.Bytes w b off s) (hblk : Blk w g T (.slice (some ⟨b, off, none⟩) n cap :: .int .i64 i :: rest).toArray) :
    Calls Tryz.prog 234 #[.pointer (some ⟨g, 0, none⟩), .int .u8 q] w fun e w' =>
      e = .returned (.string (quotedV q s i).1) ∧ w.grownBy w' (some g) ∧ Blk w' g T (.slice (some ⟨b, off, none⟩) n cap :: .int .i64 ((quotedV q s i).2 : Nat) :: rest).toArray := by
  have hgl := hblk.lt
  have hpass := fun (w1 : World) (x : Nat) (h1 : w1.cell? ⟨x, 0, none⟩ = some (.int .u8 q)) (hxg : x ≠ g) (hxl : x < w1.heap.size) (h2 : b < w1.heap.size) (h3 : Lib.Bytes w1 b off s) (h4 : Blk w1 g T (.slice (some ⟨b, off, none⟩) n cap :: .int .i64 ((i + 1 : Nat) : Int) :: rest).toArray) =>
    pass_any T g b off n cap (i + 1) rest s hn (by omega) hcap hc63 249 #[.pointer (some ⟨x, 0, none⟩)] (fun c => c != q) (fun W => W.cell? ⟨x, 0, none⟩ = some (.int .u8 q)) w1 (fun args w => by kernel_rfl)
      (fun W c hW => quoted1_any c q x W hW) (fun W' hW' => (World.cell?_of_block (hW'.block x hxl (fun e => hxg (Option.some.inj e)))).trans h1) hb h2 h3 h4
  have HPASS := hid hpass
  have HZ := hid hz
  have HBK := hid hblk
  have HN := hid hn
  have c1 := hblk.cell 1
  have fr := hblk.frozen
  simp only [List.getElem?_toArray, List.getElem?_cons_zero, List.getElem?_cons_succ] at c1
  have hi1 : (i : Int) + 1 ≤ 9223372036854775807 := by omega
  clear hpass hz hblk hn
  go_enter Tryz.func234, Tryz.ntmps234
  go_wp2_with fail
  have hw0 := HBK.out.set_ 1 (.int .i64 ((i + 1 : Nat) : Int))
  have hbox : Blk ((w.setCell ⟨g, 1, none⟩ (.int .i64 ((i : Int) + 1))).alloc (.cells #[.int .u8 q] 5)) w.heap.size 5 #[.int .u8 q] := by
    have := Blk.new (w.setCell ⟨g, 1, none⟩ (.int .i64 ((i : Int) + 1))) 5 #[.int .u8 q]
    rwa [size_set] at this
  have hsz : ((w.setCell ⟨g, 1, none⟩ (.int .i64 ((i : Int) + 1))).alloc (.cells #[.int .u8 q] 5)).heap.size = w.heap.size + 1 := by simp [World.setCell, World.alloc]
  have hbd : Blk ((w.setCell ⟨g, 1, none⟩ (.int .i64 ((i : Int) + 1))).alloc (.cells #[.int .u8 q] 5)) g T (.slice (some ⟨b, off, none⟩) n cap :: .int .i64 ((i + 1 : Nat) : Int) :: rest).toArray := by
    refine Blk.alloc ?_ _
    simpa using hw0
  refine (HPASS.out _ w.heap.size (hbox.cell 0) (by omega) (by omega) (by omega) (Bytes.keepAt HZ.out fun k => cell_alloc2 k hbl hb) hbd).mono ?_
  clear hw0 hbox hsz hbd
  rintro e w1 ⟨rfl, hG1, hB1⟩
  have HG := hid ((grown_set w g 1 (.int .i64 ((i : Int) + 1))).trans ((grown_alloc _ _ _).trans hG1))
  have hjn := passTo_le (fun c => c != q) s (i := i + 1) (by have := HN.out; omega)
  clear hG1
  have HE : Hid (quotedV q s i = (s.extract (i + 1) (passTo (fun c => c != q) s (i + 1)), if passTo (fun c => c != q) s (i + 1) < s.size then passTo (fun c => c != q) s (i + 1) + 1 else passTo (fun c => c != q) s (i + 1))) := rfl
  generalize passTo (fun c => c != q) s (i + 1) = j at hB1 hjn HE ⊢
  generalize s.extract (i + 1) j = txt at HE ⊢
  have c0 := hB1.cell 0
  have c1 := hB1.cell 1
  have fr := hB1.frozen
  simp only [List.getElem?_toArray, List.getElem?_cons_zero, List.getElem?_cons_succ] at c0 c1
  have hov := fun N => over_any g b off n cap j (w1.drewN N) ⟨c0, c1⟩
  have HOV := hid hov
  have HB := hid hB1
  clear hov hB1
  have hj' := HN.out
  by_cases hlt : j < n
  · have hd : decide (n ≤ j) = false := by simp; omega
    have hj1 : (j : Int) + 1 ≤ 9223372036854775807 := by omega
    rw [hd] at HOV
    have HE2 := hid (show quotedV q s i = (txt, j + 1) by rw [HE.out, if_pos (by omega)])
    clear hd hj' HE
    go_wp2_with fail
    refine (HOV.out 0).mono ?_
    rintro e w2 ⟨rfl, nd, rfl⟩
    go_wp2_with fail
    go_ret
    rw [HE2.out]
    refine ⟨rfl, (HG.out.trans (grown_drewN _ nd _)).trans (grown_set _ _ _ _), ?_⟩
    have h9 := (HB.out.drewN nd).set_ 1 (.int .i64 ((j + 1 : Nat) : Int))
    simpa using h9
  · have hd : decide (n ≤ j) = true := by simp; omega
    rw [hd] at HOV
    have HE2 := hid (show quotedV q s i = (txt, j) by rw [HE.out, if_neg (by omega)])
    clear hd hj' HE
    go_wp2_with fail
    refine (HOV.out 0).mono ?_
    rintro e w2 ⟨rfl, nd, rfl⟩
    go_wp2_with fail
    go_ret
    rw [HE2.out]
    exact ⟨rfl, HG.out.trans (grown_drewN _ nd _), HB.out⟩

set_option maxRecDepth 100000 in
set_option maxHeartbeats 4000000 in
theorem value_any (T : TypeId) (g b off n cap i : Nat) (rest : List Value) (s : ByteArray) (hn : n = s.size) (hi : i < n) (hcap : n ≤ cap) (hc63 : cap ≤ 9223372036854775807) (w : World)
    (hb : b ≠ g) (hbl : b < w.heap.size) (hz : Lib.Bytes w b off s) (hblk : Blk w g T (.slice (some ⟨b, off, none⟩) n cap :: .int .i64 i :: rest).toArray) :
    Calls Tryz.prog 214 #[.pointer (some ⟨g, 0, none⟩)] w fun e w' =>
      e = .returned (.string (valueV s i).1) ∧ w.grownBy w' (some g) ∧ Blk w' g T (.slice (some ⟨b, off, none⟩) n cap :: .int .i64 ((valueV s i).2 : Nat) :: rest).toArray := by
  have hpass := fun (w1 : World) (h2 : b < w1.heap.size) (h3 : Lib.Bytes w1 b off s) (h4 : Blk w1 g T (.slice (some ⟨b, off, none⟩) n cap :: .int .i64 ((i + 1 : Nat) : Int) :: rest).toArray) =>
    pass_any T g b off n cap (i + 1) rest s hn (by omega) hcap hc63 133 #[] blankB (fun _ => True) w1 (fun args w => by kernel_rfl)
      (fun W c _ => blank_any c W) (fun W' hW' => trivial) hb h2 h3 h4
  have hpass2 := fun (k : Nat) (w1 : World) (hk : k ≤ n) (h2 : b < w1.heap.size) (h3 : Lib.Bytes w1 b off s) (h4 : Blk w1 g T (.slice (some ⟨b, off, none⟩) n cap :: .int .i64 (k : Int) :: rest).toArray) =>
    pass_any T g b off n cap k rest s hn hk hcap hc63 235 #[] valC (fun _ => True) w1 (fun args w => by kernel_rfl)
      (fun W c _ => value1_any c W) (fun W' hW' => trivial) hb h2 h3 h4
  have hquo := fun (q : Int) (k : Nat) (w1 : World) (hk : k < n) (h2 : b < w1.heap.size) (h3 : Lib.Bytes w1 b off s) (h4 : Blk w1 g T (.slice (some ⟨b, off, none⟩) n cap :: .int .i64 (k : Int) :: rest).toArray) =>
    quoted_any T g b off n cap k q rest s hn hk hcap hc63 w1 hb h2 h3 h4
  have HPASS := hid hpass
  have HPASS2 := hid hpass2
  have HQUO := hid hquo
  have HZ := hid hz
  have HBK := hid hblk
  have HN := hid hn
  have c1 := hblk.cell 1
  have fr := hblk.frozen
  simp only [List.getElem?_toArray, List.getElem?_cons_zero, List.getElem?_cons_succ] at c1
  have hi1 : (i : Int) + 1 ≤ 9223372036854775807 := by omega
  clear hpass hpass2 hquo hz hblk hn
  go_enter Tryz.func214, Tryz.ntmps214
  go_wp2_with fail
  have hw0 := HBK.out.set_ 1 (.int .i64 ((i + 1 : Nat) : Int))
  have hbd : Blk (w.setCell ⟨g, 1, none⟩ (.int .i64 ((i : Int) + 1))) g T (.slice (some ⟨b, off, none⟩) n cap :: .int .i64 ((i + 1 : Nat) : Int) :: rest).toArray := by
    simpa using hw0
  have hbs : ∀ k, (w.setCell ⟨g, 1, none⟩ (.int .i64 ((i : Int) + 1))).cell? ⟨b, k, none⟩ = w.cell? ⟨b, k, none⟩ := fun k => World.cell?_of_block (w := w) (Below.heap_setCell _ _ _ _ hb)
  refine (HPASS.out _ (by rw [size_set]; exact hbl) (Bytes.keepAt HZ.out hbs) hbd).mono ?_
  clear hw0 hbd hbs
  rintro e w1 ⟨rfl, hG1, hB1⟩
  have HG := hid ((grown_set w g 1 (.int .i64 ((i : Int) + 1))).trans hG1)
  have hjn := passTo_le blankB s (i := i + 1) (by have := HN.out; omega)
  clear hG1
  have HE : Hid (valueV s i = if passTo blankB s (i + 1) < s.size ∧ (byt s (passTo blankB s (i + 1)) = 34 ∨ byt s (passTo blankB s (i + 1)) = 39) then quotedV (byt s (passTo blankB s (i + 1))) s (passTo blankB s (i + 1))
    else (s.extract (passTo blankB s (i + 1)) (passTo valC s (passTo blankB s (i + 1))), passTo valC s (passTo blankB s (i + 1)))) := rfl
  generalize passTo blankB s (i + 1) = j at hB1 hjn HE ⊢
  generalize s.extract (i + 1) j = txt at *
  have c0 := hB1.cell 0
  have c1 := hB1.cell 1
  simp only [List.getElem?_toArray, List.getElem?_cons_zero, List.getElem?_cons_succ] at c0 c1
  have hz1 : Lib.Bytes w1 b off s := Bytes.keepAt HZ.out fun k => World.cell?_of_block (HG.out.block b hbl (fun e => hb (Option.some.inj e)))
  have hbl1 : b < w1.heap.size := Nat.lt_of_lt_of_le hbl HG.out.size
  have HB := hid hB1
  have hj' := HN.out
  by_cases hlt : j < n
  · have hcell := bytes_cell hz1 (i := j) (by omega)
    have hpk := fun N => peek_in g b off n cap j (byt s j) (w1.drewN N) ⟨c0, c1⟩ hlt hcell
    generalize hcb : byt s j = c at *
    have HPK := hid hpk
    have HZ1 := hid hz1
    have hjs : j < s.size := by omega
    clear hpk hcell hz1 hB1 c0 c1 hcb
    by_cases hq : c = 34 ∨ c = 39
    · have HE2 := hid (show valueV s i = quotedV c s j by rw [HE.out, if_pos ⟨hjs, hq⟩])
      clear HE
      have hor : c = 34 ∨ (c ≠ 34 ∧ c = 39) := by omega
      clear hq
      rcases hor with rfl | ⟨hne, rfl⟩
      all_goals
        go_wp2_with fail
        refine (HPK.out 0).mono ?_
        rintro e w2 ⟨rfl, nd, rfl⟩
        go_wp2_with fail
        refine (HQUO.out _ j _ hlt (by simpa using hbl1) (HZ1.out.drewN nd) (HB.out.drewN nd)).mono ?_
        rintro e w3 ⟨rfl, hG3, hB3⟩
        go_wp2_with fail
        go_ret
        rw [HE2.out]
        exact ⟨rfl, (HG.out.trans (grown_drewN _ nd _)).trans hG3, hB3⟩
    · have HE2 := hid (show valueV s i = (s.extract j (passTo valC s j), passTo valC s j) by rw [HE.out, if_neg (fun h => hq h.2)])
      have n34 : c ≠ 34 := fun h => hq (.inl h)
      have n39 : c ≠ 39 := fun h => hq (.inr h)
      have b34 : (c == 34) = false := by simpa using n34
      have b39 : (c == 39) = false := by simpa using n39
      clear HE hq n34 n39
      go_wp2_with fail
      refine (HPK.out 0).mono ?_
      rintro e w2 ⟨rfl, nd, rfl⟩
      go_wp2_with fail
      refine (HPASS2.out j _ (by omega) (by simpa using hbl1) (HZ1.out.drewN nd) (HB.out.drewN nd)).mono ?_
      rintro e w3 ⟨rfl, hG3, hB3⟩
      go_wp2_with fail
      go_ret
      rw [HE2.out]
      exact ⟨rfl, (HG.out.trans (grown_drewN _ nd _)).trans hG3, hB3⟩
  · have hpk := fun N => peek_out g b off n cap j (w1.drewN N) ⟨c0, c1⟩ hlt
    have HPK := hid hpk
    have HZ1 := hid hz1
    have HE2 := hid (show valueV s i = (s.extract j (passTo valC s j), passTo valC s j) by rw [HE.out, if_neg (fun h => hlt (by have := h.1; omega))])
    clear hpk hz1 hB1 c0 c1 HE
    go_wp2_with fail
    refine (HPK.out 0).mono ?_
    rintro e w2 ⟨rfl, nd, rfl⟩
    go_wp2_with fail
    refine (HPASS2.out j _ (by omega) (by simpa using hbl1) (HZ1.out.drewN nd) (HB.out.drewN nd)).mono ?_
    rintro e w3 ⟨rfl, hG3, hB3⟩
    go_wp2_with fail
    go_ret
    rw [HE2.out]
    exact ⟨rfl, (HG.out.trans (grown_drewN _ nd _)).trans hG3, hB3⟩

end Go.Proofs.YtpnbkecchfhimaaGreatDoor

/- out of TagLow -/
namespace Go.Proofs.YtpnbkecchfhimaaGreatDoor
set_option maxRecDepth 100000
open Go.RowKit
open Go.Lib (hid)
set_option linter.unusedVariables false

/-- A byte, as a small letter if it is a great one. -/
def lowU (c : UInt8) : UInt8 := if 65 ≤ c.toNat ∧ c.toNat ≤ 90 then UInt8.ofNat (c.toNat + 32) else c
/-- A text with small letters. -/
def lowerB (s : ByteArray) : ByteArray := ⟨s.data.map lowU⟩
/-- Only its first bytes so. -/
def lowPart (s : ByteArray) (k : Nat) : ByteArray := ⟨s.data.mapIdx fun i c => if i < k then lowU c else c⟩

theorem lowPart_size (s : ByteArray) (k : Nat) : (lowPart s k).size = s.size := by
  show (s.data.mapIdx _).size = s.data.size
  simp
theorem lowerB_size (s : ByteArray) : (lowerB s).size = s.size := by
  show (s.data.map _).size = s.data.size
  simp
theorem lowPart_zero (s : ByteArray) : lowPart s 0 = s := by
  apply ByteArray.ext
  apply Array.ext <;> simp [lowPart]
theorem lowPart_all (s : ByteArray) {k : Nat} (h : s.size ≤ k) : lowPart s k = lowerB s := by
  apply ByteArray.ext
  apply Array.ext
  · simp [lowPart, lowerB]
  · intro i h1 h2
    have : i < k := by have : s.data.size = s.size := rfl; simp [lowPart] at h1; omega
    simp [lowPart, lowerB, this]
theorem lowU_lt (c : UInt8) : (lowU c).toNat = if 65 ≤ c.toNat ∧ c.toNat ≤ 90 then c.toNat + 32 else c.toNat := by
  unfold lowU
  split
  · rename_i h
    rw [UInt8.toNat_ofNat']
    omega
  · rfl
theorem byt_lowPart (s : ByteArray) (k i : Nat) (h : i < s.size) : byt (lowPart s k) i = if i < k then ((lowU (s.data.getD i 0)).toNat : Int) else byt s i := by
  have hd : i < s.data.size := h
  unfold byt lowPart
  simp only [Array.getD_eq_getD_getElem?, Array.getElem?_mapIdx, Array.getElem?_eq_getElem hd, Option.map_some, Option.getD_some]
  split <;> rfl

/-- A byte's small letter, as a number. -/
def lowI (c : Int) : Int := if 65 ≤ c ∧ c ≤ 90 then c + 32 else c
theorem byt_low (s : ByteArray) (i : Nat) : ((lowU (s.data.getD i 0)).toNat : Int) = lowI (byt s i) := by
  rw [lowU_lt]
  unfold lowI byt
  split
  · rw [if_pos (by omega)]; omega
  · rw [if_neg (by omega)]
theorem byt_part (s : ByteArray) (k i : Nat) (h : i < s.size) : byt (lowPart s k) i = if i < k then lowI (byt s i) else byt s i := by
  rw [byt_lowPart s k i h]
  split
  · exact byt_low s i
  · rfl
theorem byt_lowerB (s : ByteArray) (i : Nat) (h : i < s.size) : byt (lowerB s) i = lowI (byt s i) := by
  rw [← lowPart_all s (Nat.le_refl _), byt_part s _ i h, if_pos h]
theorem bytes_part {w : World} {b k : Nat} {s : ByteArray} (hk : k < s.size) (h : Lib.Bytes w b 0 (lowPart s k)) (hl : ¬ (65 ≤ byt s k ∧ byt s k ≤ 90)) : Lib.Bytes w b 0 (lowPart s (k + 1)) := by
  apply bytes_of_byt
  intro i hi
  rw [lowPart_size] at hi
  have := bytes_cell h (i := i) (by rw [lowPart_size]; exact hi)
  rw [this]
  have e : byt (lowPart s k) i = byt (lowPart s (k + 1)) i := by
    rw [byt_part s k i hi, byt_part s (k + 1) i hi]
    by_cases h1 : i < k
    · rw [if_pos h1, if_pos (by omega)]
    · by_cases h2 : i = k
      · subst h2
        rw [if_neg h1, if_pos (by omega)]
        unfold lowI
        rw [if_neg hl]
      · rw [if_neg h1, if_neg (by omega)]
  rw [e]
theorem bytes_part_set {w : World} {b k : Nat} {s : ByteArray} (hk : k < s.size) (h : Lib.Bytes w b 0 (lowPart s k)) (hl : 65 ≤ byt s k ∧ byt s k ≤ 90) : Lib.Bytes (w.setCell ⟨b, k, none⟩ (.int .u8 (byt s k + 32))) b 0 (lowPart s (k + 1)) := by
  apply bytes_of_byt
  intro i hi
  rw [lowPart_size] at hi
  have hc := bytes_cell h (i := i) (by rw [lowPart_size]; exact hi)
  rw [byt_part s (k + 1) i hi, Nat.zero_add]
  rw [Nat.zero_add] at hc
  by_cases h2 : i = k
  · subst h2
    rw [World.cell?_setCell_same _ _ _ hc, if_pos (by omega)]
    unfold lowI
    rw [if_pos hl]
  · rw [World.cell?_setCell_other _ _ _ _ (fun e => h2 (by injection e with _ e2 _; exact e2.symm)), hc, byt_part s k i hi]
    by_cases h1 : i < k
    · rw [if_pos h1, if_pos (by omega)]
    · rw [if_neg h1, if_neg (by omega)]

set_option maxRecDepth 100000 in
set_option maxHeartbeats 4000000 in
theorem lower_any (s : ByteArray) (hs : s.size ≤ 9223372036854775807) (w : World) : Calls Tryz.prog 130 #[.string s] w fun e w' => e = .returned (.string (lowerB s)) ∧ Below w.heap.size w w' := by
  have hk := Lib.run_convert_string_bytes (P := Tryz.prog) w 9 22 5 s Tryz.underlying9 Tryz.underlying22 Tryz.underlying5
  have hback := fun (W : World) (z : ByteArray) (hz : Lib.Bytes W w.heap.size 0 z) (n cap : Nat) (hn : n = z.size) =>
    Lib.run_convert_window (P := Tryz.prog) W 22 5 9 Tryz.underlying22 Tryz.underlying5 Tryz.underlying9 w.heap.size 0 z hz 0 n cap (by omega)
  generalize hG : grownCap w s.size 0 5 = cap at hk
  have HBK := hid hback
  clear hback hG
  go_enter Tryz.func130, Tryz.ntmps130
  have hb0 := bytesWorld_below w 5 s
  have hz0 := bytesWorld_new w 5 s
  have hf0 := bytesWorld_free w 5 s
  have hl0 := Lib.bytesWorld_size w 5 s
  generalize Lib.bytesWorld w 5 s = w1 at *
  have HB0 := hid hb0
  have HZ0 := hid hz0
  have HF0 := hid hf0
  clear hb0 hz0 hf0
  go_wp2_with fail
  go_loopg [10] s.size (fun kx s10 wr => ∃ (k : Nat), s10 = .int .i64 k ∧ k ≤ s.size ∧ s.size - k ≤ kx ∧ Hid (Below w.heap.size w wr) ∧ Hid (Lib.Bytes wr w.heap.size 0 (lowPart s k)) ∧ Hid (∀ i, i < s.size → wr.frozen? ⟨w.heap.size, i, none⟩ = false) ∧ Hid (w.heap.size < wr.heap.size))
  case atStart => exact ⟨0, rfl, Nat.zero_le _, by omega, HB0.out, by rw [lowPart_zero]; exact HZ0.out, HF0.out, by show _ < _; omega⟩
  case round =>
    obtain ⟨k, rfl, hk, hg, HB, HZ, HF, HL⟩ := hrel
    by_cases hlt : k < s.size
    · have hlt' : (k : Int) < (s.size : Int) := by omega
      have hcell := bytes_cell HZ.out (i := k) (by rw [lowPart_size]; exact hlt)
      rw [byt_lowPart s k k hlt, if_neg (by omega), Nat.zero_add] at hcell
      have hfr := HF.out k hlt
      have hr := byt_nonneg s k
      generalize hcb : byt s k = c at hcell hr
      have HCB := hid hcb
      have hk1 : (k : Int) + 1 ≤ 9223372036854775807 := by omega
      clear hcb
      by_cases h65 : (65 : Int) ≤ c
      · by_cases h90 : c ≤ (90 : Int)
        · have w1 : IntKind.u8.wrap (c + 97) = c + 97 := wraps_u8 _ (by omega) (by omega)
          have w2 : IntKind.u8.wrap (c + 97 - 65) = c + 32 := by rw [show c + 97 - 65 = c + 32 by omega]; exact wraps_u8 _ (by omega) (by omega)
          go_wp2_with fail
          go_roundg (s.size - (k + 1))
          case measure => omega
          case rel =>
            refine ⟨k + 1, rfl, by omega, Nat.le_refl _, Below.setCell (p := ⟨w.heap.size, k, none⟩) HB.out (Nat.le_refl _) _, ?_, ?_, ?_⟩
            · show Lib.Bytes _ _ _ _
              have := bytes_part_set hlt HZ.out (by rw [HCB.out]; omega)
              rwa [HCB.out] at this
            · intro i hi
              rw [World.frozen?_setCell]
              exact HF.out i hi
            · show _ < _
              rw [size_set]
              exact HL.out
        · go_wp2_with fail
          go_roundg (s.size - (k + 1))
          case measure => omega
          case rel => exact ⟨k + 1, rfl, by omega, Nat.le_refl _, HB, bytes_part hlt HZ.out (by rw [HCB.out]; omega), HF, HL⟩
      · go_wp2_with fail
        go_roundg (s.size - (k + 1))
        case measure => omega
        case rel => exact ⟨k + 1, rfl, by omega, Nat.le_refl _, HB, bytes_part hlt HZ.out (by rw [HCB.out]; omega), HF, HL⟩
    · have hlt' : ¬ (k : Int) < (s.size : Int) := by omega
      have hcv := HBK.out wr (lowPart s k) HZ.out s.size cap (by rw [lowPart_size])
      rw [Nat.zero_add, Nat.zero_add, lowPart_all s (by omega), show (lowerB s).extract 0 s.size = lowerB s by rw [← lowerB_size s]; exact ByteArray.extract_zero_size] at hcv
      go_wp2_with fail
      go_ret
      exact ⟨rfl, HB.out⟩

end Go.Proofs.YtpnbkecchfhimaaGreatDoor

/- out of TagA -/
namespace Go.Proofs.YtpnbkecchfhimaaGreatDoor
set_option maxRecDepth 100000
open Go.RowKit
open Go.Lib (hid)
set_option linter.unusedVariables false

/-- The value of what begins at k, if that is a =. -/
def valueAt (s : ByteArray) (k : Nat) : ByteArray × Nat := if k < s.size ∧ byt s k = 61 then valueV s k else (⟨#[]⟩, k)
/-- Where an attribute's name ends that begins at i; the attribute, and where what is behind it begins. -/
def nameEnd (s : ByteArray) (i : Nat) : Nat := passTo attrC s (i + 1)
def attrV (s : ByteArray) (i : Nat) : (ByteArray × ByteArray) × Nat :=
  let r := valueAt s (passTo blankB s (nameEnd s i))
  ((lowerB (s.extract i (nameEnd s i)), r.1), r.2)

/-- A reader's cells. -/
def rdr (b off n cap i : Nat) (kd sz : Int) (nm : ByteArray) (v : Value) (sg cl : Bool) : Array Value :=
  #[.slice (some ⟨b, off, none⟩) n cap, .int .i64 i, .int .i64 kd, .int .i64 sz, .string nm, v, .bool sg, .bool cl]

/-- The next byte; 0: there is none. -/
def pk (s : ByteArray) (k : Nat) : Int := if k < s.size then byt s k else 0
theorem peek_any (g b off cap k : Nat) (s : ByteArray) (n : Nat) (hn : n = s.size) (w : World) (hz : Lib.Bytes w b off s) (h : PlaceAt w g b off n cap k) : Calls Tryz.prog 178 #[.pointer (some ⟨g, 0, none⟩)] w fun e w' => e = .returned (.int .u8 (pk s k)) ∧ ∃ q, w' = w.drewN q := by
  unfold pk
  by_cases hlt : k < s.size
  · rw [if_pos hlt]
    exact peek_in g b off n cap k _ w h (by omega) (bytes_cell hz hlt)
  · rw [if_neg hlt]
    exact peek_out g b off n cap k w h (by omega)
theorem own_drewN {w : World} {B : Nat} {e : TypeId} {size n : Nat} {v : Value} {xs : List Value} (h : w.ownsRow B e size v n xs) (k : Nat) : (w.drewN k).ownsRow B e size v n xs :=
  own_kept h (grown_drewN w k none) fun _ _ e => by cases e
theorem info_attr : (Tryz.prog.info? 307).map (fun i => (i.zero, i.size, i.bytes)) = some (some (.agg #[.string ⟨#[]⟩, .string ⟨#[]⟩]), 2, 32) := by kernel_rfl
theorem reads_blk2 {w : World} {q : Nat} {t : TypeId} {x y : Value} (h : Blk w q t #[x, y]) : Reads w w.heap.size 2 (some ⟨q, 0, none⟩) 1 [x, y] := by
  refine ⟨rfl, fun _ => ⟨_, rfl, h.lt, fun j u hu => ?_⟩⟩
  have e : (Addr.add ⟨q, 0, none⟩ j) = ⟨q, j, none⟩ := by unfold Addr.add; split <;> simp_all
  rw [e, h.cell j]
  simpa using hu
theorem below_of_grown {B g : Nat} {w w' : World} (h : w.grownBy w' (some g)) (hB : B ≤ g) (hs : B ≤ w.heap.size) : Below B w w' :=
  ⟨h.1, h.2, h.3, h.size, fun k hk => h.block k (by omega) (fun e => by have := Option.some.inj e; omega)⟩
theorem keep_at {l : Bool} {x : Value} {base : Nat} {w w1 : World} {c : Nat → Obj} {c1 : Nat → Obj} (hcc : c = c1) (h : l = true → ∃ p, x = .pointer (some ⟨p, 0, none⟩) ∧ base ≤ p ∧ w.heap[p]? = some (c p)) (hk : ∀ k, k < w.heap.size → w1.heap[k]? = w.heap[k]?) :
    l = true → ∃ p, x = .pointer (some ⟨p, 0, none⟩) ∧ base ≤ p ∧ w1.heap[p]? = some (c1 p) := by
  subst hcc
  intro hl
  obtain ⟨p, h1, h2, h3⟩ := h hl
  exact ⟨p, h1, h2, (hk p (Array.getElem?_eq_some_iff.1 h3).1).trans h3⟩

def attrInv (g b off n cap i E : Nat) (s txt : ByteArray) (w1 : World) (L : Array Bool) (a : Act) (w' : World) : Prop :=
  ∃ (l0 l1 l2 l3 l4 l5 l6 l7 l8 l9 l10 l11 l12 l13 l14 l15 l16 : Bool) (x3 x22 x23 x24 x25 x26 x27 x28 x29 x30 x31 x32 x33 x34 x35 x36 : Value), L = #[l0, l1, l2, l3, l4, l5, l6, l7, l8, l9, l10, l11, l12, l13, l14, l15, l16] ∧ a = { tmps := #[.pointer (some ⟨g, 0, none⟩), undef, .int .i64 i, x3, .pointer (some ⟨g, 0, none⟩), .pointer (some ⟨g, 0, none⟩), .pointer (some ⟨g, 0, none⟩), .pointer (some ⟨g, 1, none⟩), .int .i64 i, .pointer (some ⟨g, 0, none⟩), .pointer (some ⟨g, 0, none⟩), .pointer (some ⟨g, 0, none⟩), .pointer (some ⟨g, 1, none⟩), .int .i64 i, .int .i64 ((i : Int) + 1), .pointer (some ⟨g, 0, none⟩), .pointer (some ⟨g, 0, none⟩), .pointer (some ⟨g, 1, none⟩), .pointer (some ⟨g, 0, none⟩), .pointer (some ⟨g, 0, none⟩), .pointer (some ⟨g, 0, none⟩), .string txt, x22, x23, x24, x25, x26, x27, x28, x29, x30, x31, x32, x33, x34, x35, x36, undef, undef, undef, undef, undef, undef, undef, undef, undef, undef, undef, undef, undef, undef, undef, undef, undef, undef, undef, undef, undef, undef, undef, undef], defers := [] } ∧
    Hid (l0 = true → x22 = .pointer (some ⟨g, 0, none⟩)) ∧
    Hid (l1 = true → x23 = .pointer (some ⟨g, 0, none⟩)) ∧
    Hid (l2 = true → x24 = .pointer (some ⟨g, 0, none⟩)) ∧
    Hid (l3 = true → x25 = .pointer (some ⟨g, 0, none⟩)) ∧
    Hid (l4 = true → x26 = .slice (some ⟨b, off, none⟩) n cap) ∧
    Hid (l5 = true → x27 = .int .i64 i) ∧
    Hid (l6 = true → x28 = .pointer (some ⟨g, 0, none⟩)) ∧
    Hid (l7 = true → x29 = .pointer (some ⟨g, 0, none⟩)) ∧
    Hid (l8 = true → x30 = .pointer (some ⟨g, 0, none⟩)) ∧
    Hid (l9 = true → x31 = .pointer (some ⟨g, 1, none⟩)) ∧
    Hid (l10 = true → x32 = .int .i64 E) ∧
    Hid (l11 = true → x33 = .slice (some ⟨b, off + i, none⟩) (E - i) (cap - i)) ∧
    Hid (l12 = true → x34 = .string (s.extract i E)) ∧
    Hid (l13 = true → x35 = .string (lowerB (s.extract i E))) ∧
    Hid (l14 = true → x36 = .agg #[.string (lowerB (s.extract i E)), .string ⟨#[]⟩]) ∧
    Hid (l15 = true → ∃ p, x3 = .pointer (some ⟨p, 0, none⟩) ∧ w1.heap.size ≤ p ∧ w'.heap[p]? = some (.cells (if l16 then #[.string (lowerB (s.extract i E)), .string ⟨#[]⟩] else #[.string ⟨#[]⟩, .string ⟨#[]⟩]) 307 (0, 0))) ∧
    Hid (l16 = true → l15 = true) ∧
    Hid (Below w1.heap.size w1 w') ∧
    Hid (w1.heap.size ≤ w'.heap.size)

def attrInv7 (B g b off n cap i k p : Nat) (kd sz : Int) (nm : ByteArray) (v : Value) (sg cl : Bool) (m : Nat) (xs : List Value) (tn tv : ByteArray) (u4 u5 u6 u7 u8 u9 u10 u11 u12 u13 u14 u15 u16 u17 u18 u19 u20 u21 u22 u23 u24 u25 u26 u27 u28 u29 u30 u31 u32 u33 u34 u35 u36 u37 u38 u39 u40 u41 u42 u43 u44 u45 u46 u47 u48 : Value) (w : World) (L : Array Bool) (a : Act) (w' : World) : Prop :=
  ∃ (l0 l1 l2 l3 l4 l5 l6 l7 l8 l9 l10 l11 l12 : Bool) (x49 x50 x51 x52 x53 x54 x55 x56 x57 x58 x59 x60 : Value), L = #[l0, l1, l2, l3, l4, l5, l6, l7, l8, l9, l10, l11, l12] ∧ a = { tmps := #[.pointer (some ⟨g, 0, none⟩), undef, .int .i64 i, .pointer (some ⟨p, 0, none⟩), u4, u5, u6, u7, u8, u9, u10, u11, u12, u13, u14, u15, u16, u17, u18, u19, u20, u21, u22, u23, u24, u25, u26, u27, u28, u29, u30, u31, u32, u33, u34, u35, u36, u37, u38, u39, u40, u41, u42, u43, u44, u45, u46, u47, u48, x49, x50, x51, x52, x53, x54, x55, x56, x57, x58, x59, x60], defers := [] } ∧
    Hid (l0 = true → x49 = .pointer (some ⟨g, 0, none⟩)) ∧
    Hid (l1 = true → x50 = .pointer (some ⟨g, 0, none⟩)) ∧
    Hid (l2 = true → x51 = .pointer (some ⟨g, 0, none⟩)) ∧
    Hid (l3 = true → x52 = .pointer (some ⟨g, 2, none⟩)) ∧
    Hid (l4 = true → x53 = .pointer (some ⟨g, 5, none⟩)) ∧
    Hid (l5 = true → x54 = v) ∧
    Hid (l6 = true → x55 = .agg #[.string tn, .string tv]) ∧
    Hid (l7 = true → ∃ q, x56 = .slice (some ⟨q, 0, none⟩) 1 1 ∧ Blk w' q 307 #[.string tn, .string tv] ∧ (l8 = false → v.ownBlock ≠ some q)) ∧
    Hid (l8 = true → w'.ownsRow B 307 2 x57 (m + 1) (xs ++ [.string tn, .string tv])) ∧
    Hid (l9 = true → x58 = .pointer (some ⟨g, 0, none⟩)) ∧
    Hid (l10 = true → x59 = .pointer (some ⟨g, 2, none⟩)) ∧
    Hid (l11 = true → x60 = .pointer (some ⟨g, 5, none⟩)) ∧
    Hid (l12 = true → Blk w' g 206 (rdr b off n cap k kd sz nm x57 sg cl)) ∧
    Hid (Below B w w') ∧
    Hid (l8 = false → w'.ownsRow B 307 2 v m xs) ∧
    Hid (l12 = false → Blk w' g 206 (rdr b off n cap k kd sz nm v sg cl)) ∧
    Hid (Blk w' p 307 #[.string tn, .string tv]) ∧
    Hid (B ≤ w'.heap.size) ∧
    Hid (l8 = true → l5 = true ∧ l7 = true) ∧
    Hid (l12 = true → l8 = true)

set_option maxRecDepth 100000 in
set_option maxHeartbeats 4000000 in
theorem attr_any (B g b off n cap i : Nat) (kd sz : Int) (nm : ByteArray) (v : Value) (sg cl : Bool) (m : Nat) (xs : List Value) (s : ByteArray) (hn : n = s.size) (hi : i < n) (hcap : n ≤ cap) (hc63 : cap ≤ 9223372036854775807)
    (hm : m ≤ 1048576) (w : World) (hbB : b < B) (hgB : B ≤ g) (hz : Lib.Bytes w b off s) (hblk : Blk w g 206 (rdr b off n cap i kd sz nm v sg cl)) (hown : w.ownsRow B 307 2 v m xs) :
    Calls Tryz.prog 180 #[.pointer (some ⟨g, 0, none⟩)] w fun e w' =>
      e = .returned (.tuple #[]) ∧ Below B w w' ∧ ∃ v', Blk w' g 206 (rdr b off n cap (attrV s i).2 kd sz nm v' sg cl) ∧ w'.ownsRow B 307 2 v' (m + 1) (xs ++ [.string (attrV s i).1.1, .string (attrV s i).1.2]) := by
  have hgl := hblk.lt
  have hb : b ≠ g := by omega
  have hbl : b < w.heap.size := by omega
  have hpass := fun (w1 : World) (h2 : b < w1.heap.size) (h3 : Lib.Bytes w1 b off s) (h4 : Blk w1 g 206 (rdr b off n cap (i + 1) kd sz nm v sg cl)) =>
    pass_any 206 g b off n cap (i + 1) _ s hn (by omega) hcap hc63 213 #[] attrC (fun _ => True) w1 (fun args w => by kernel_rfl)
      (fun W c _ => attr1_any c W) (fun W' hW' => trivial) hb h2 h3 h4
  have HPASS := hid hpass
  have HZ := hid hz
  have HBK := hid hblk
  have HN := hid hn
  have c0 := hblk.cell 0
  have c1 := hblk.cell 1
  have fr := hblk.frozen
  simp only [rdr, List.getElem?_toArray, List.getElem?_cons_zero, List.getElem?_cons_succ] at c0 c1
  have hi1 : (i : Int) + 1 ≤ 9223372036854775807 := by omega
  clear hpass hz hblk hn
  go_enter Tryz.func180, Tryz.ntmps180
  go_wp2_with fail
  have hw0 := HBK.out.set_ 1 (.int .i64 ((i + 1 : Nat) : Int))
  have hbd : Blk (w.setCell ⟨g, 1, none⟩ (.int .i64 ((i : Int) + 1))) g 206 (rdr b off n cap (i + 1) kd sz nm v sg cl) := by
    simpa [rdr] using hw0
  have hbs : ∀ k, (w.setCell ⟨g, 1, none⟩ (.int .i64 ((i : Int) + 1))).cell? ⟨b, k, none⟩ = w.cell? ⟨b, k, none⟩ := fun k => World.cell?_of_block (w := w) (Below.heap_setCell _ _ _ _ hb)
  refine (HPASS.out _ (by rw [size_set]; exact hbl) (Bytes.keepAt HZ.out hbs) hbd).mono ?_
  clear hw0 hbd hbs
  rintro e w1 ⟨rfl, hG1, hB1⟩
  have hbl1 : b < w1.heap.size := Nat.lt_of_lt_of_le hbl (by have := hG1.size; rwa [size_set] at this)
  have hgl1 : g < w1.heap.size := hB1.lt
  have hrow : ∀ k, v.ownBlock = some k → k ≠ g := fun k hk e => own_blk_ne hown HBK.out (by decide) (by rw [hk, e])
  have hown1 : w1.ownsRow B 307 2 v m xs := own_kept hown ((grown_set w g 1 (.int .i64 ((i : Int) + 1))).trans hG1) fun k hk e => hrow k hk (Option.some.inj e).symm
  have HOWN1 := hid hown1
  have HROW := hid hrow
  have HB1B := hid ((Below.setCell (p := ⟨g, 1, none⟩) (Below.refl B w) hgB (.int .i64 ((i : Int) + 1))).trans (below_of_grown hG1 hgB (by rw [size_set]; omega)))
  have HZ1 := hid (Bytes.keepAt HZ.out fun k => (World.cell?_of_block (HB1B.out.block b hbB)))
  have hE := passTo_ge attrC s (i + 1)
  have hE2 := passTo_le attrC s (i := i + 1) (by have := HN.out; omega)
  have HA : Hid (attrV s i = ((lowerB (s.extract i (passTo attrC s (i + 1))), (valueAt s (passTo blankB s (passTo attrC s (i + 1)))).1), (valueAt s (passTo blankB s (passTo attrC s (i + 1)))).2)) := rfl
  generalize passTo attrC s (i + 1) = E at hB1 hE hE2 HA ⊢
  generalize s.extract (i + 1) E = txt at *
  have hcv : ∀ (W : World), Below w1.heap.size w1 W → ∀ cap', (convert 22 9 (.slice (some ⟨b, off + i, none⟩) (E - i) cap')).run Tryz.prog W = .ok (.string (s.extract i E)) W := by
    intro W hW cap'
    have hWz : Lib.Bytes W b off s := Bytes.keepAt HZ1.out fun k => World.cell?_of_block (hW.block b hbl1)
    have := Lib.run_convert_window (P := Tryz.prog) W 22 5 9 Tryz.underlying22 Tryz.underlying5 Tryz.underlying9 b off s hWz i (E - i) cap' (by omega)
    rwa [show i + (E - i) = E by omega] at this
  have HCV := hid hcv
  have hEn : E ≤ n := by have := HN.out; omega
  have hsl : ∀ W, (Instr.slice 22 (.slice (some ⟨b, off, none⟩) n cap) (some (.int .i64 i)) (some (.int .i64 E)) none).run Tryz.prog W = .ok (.slice (some ⟨b, off + i, none⟩) (E - i) (cap - i)) W := by
    exact slice_row b off n cap i E (by omega) (by omega) (by omega)
  have HSL := hid hsl
  have HLE := hid (show (s.extract i E).size ≤ 9223372036854775807 by rw [ByteArray.size_extract]; have := HN.out; omega)
  have HB1 := hid hB1
  have c0 := hB1.cell 0
  have c1 := hB1.cell 1
  simp only [List.getElem?_toArray, List.getElem?_cons_zero, List.getElem?_cons_succ] at c0 c1
  clear hcv hsl hG1 hB1 fr hown hown1 hrow
  go_upto_region 3 with fail
  refine wp_region_inv (attrInv g b off n cap i E s txt w1) rfl (by kernel_rfl) ?h0 ?hstep ?hend
  case h0 =>
    exact ⟨false, false, false, false, false, false, false, false, false, false, false, false, false, false, false, false, false, undef, undef, undef, undef, undef, undef, undef, undef, undef, undef, undef, undef, undef, undef, undef, undef, rfl, rfl, (fun h => by cases h), (fun h => by cases h), (fun h => by cases h), (fun h => by cases h), (fun h => by cases h), (fun h => by cases h), (fun h => by cases h), (fun h => by cases h), (fun h => by cases h), (fun h => by cases h), (fun h => by cases h), (fun h => by cases h), (fun h => by cases h), (fun h => by cases h), (fun h => by cases h), (fun h => by cases h), (fun h => by cases h), (below_drewN _ _ 1), (Nat.le_refl _)⟩
  case hstep =>
    rintro L a w' ix o ⟨l0, l1, l2, l3, l4, l5, l6, l7, l8, l9, l10, l11, l12, l13, l14, l15, l16, x3, x22, x23, x24, x25, x26, x27, x28, x29, x30, x31, x32, x33, x34, x35, x36, rfl, rfl, H0, H1, H2, H3, H4, H5, H6, H7, H8, H9, H10, H11, H12, H13, H14, H15, H16, HB, HSZ⟩ ho hl haf
    rcases ix with _ | _ | _ | _ | _ | _ | _ | _ | _ | _ | _ | _ | _ | _ | _ | _ | _ | ix
    · obtain rfl : _ = o := Option.some.inj ho
      obtain ⟨hc, hf⟩ := bcell HB.out
      go_wp2_with fail
      exact ⟨true, _, _, _, _, _, _, _, _, _, _, _, _, _, _, _, _, _, _, _, _, _, _, _, _, _, _, _, _, _, _, _, _, rfl, rfl, (fun _ => rfl), H1, H2, H3, H4, H5, H6, H7, H8, H9, H10, H11, H12, H13, H14, H15, H16, HB, HSZ⟩
    · obtain rfl : _ = o := Option.some.inj ho
      obtain ⟨hc, hf⟩ := bcell HB.out
      have d0 : l0 = true := haf ⟨0, .data⟩ (by simp) rfl
      obtain rfl := H0.out d0
      go_wp2_with fail
      exact ⟨_, true, _, _, _, _, _, _, _, _, _, _, _, _, _, _, _, _, _, _, _, _, _, _, _, _, _, _, _, _, _, _, _, rfl, rfl, (fun _ => rfl), (fun _ => rfl), H2, H3, H4, H5, H6, H7, H8, H9, H10, H11, H12, H13, H14, H15, H16, HB, HSZ⟩
    · obtain rfl : _ = o := Option.some.inj ho
      obtain ⟨hc, hf⟩ := bcell HB.out
      have d1 : l1 = true := haf ⟨1, .data⟩ (by simp) rfl
      obtain rfl := H1.out d1
      go_wp2_with fail
      exact ⟨_, _, true, _, _, _, _, _, _, _, _, _, _, _, _, _, _, _, _, _, _, _, _, _, _, _, _, _, _, _, _, _, _, rfl, rfl, H0, (fun _ => rfl), (fun _ => rfl), H3, H4, H5, H6, H7, H8, H9, H10, H11, H12, H13, H14, H15, H16, HB, HSZ⟩
    · obtain rfl : _ = o := Option.some.inj ho
      obtain ⟨hc, hf⟩ := bcell HB.out
      have d2 : l2 = true := haf ⟨2, .data⟩ (by simp) rfl
      obtain rfl := H2.out d2
      go_wp2_with fail
      exact ⟨_, _, _, true, _, _, _, _, _, _, _, _, _, _, _, _, _, _, _, _, _, _, _, _, _, _, _, _, _, _, _, _, _, rfl, rfl, H0, H1, (fun _ => rfl), (fun _ => rfl), H4, H5, H6, H7, H8, H9, H10, H11, H12, H13, H14, H15, H16, HB, HSZ⟩
    · obtain rfl : _ = o := Option.some.inj ho
      obtain ⟨hc, hf⟩ := bcell HB.out
      have d3 : l3 = true := haf ⟨3, .data⟩ (by simp) rfl
      obtain rfl := H3.out d3
      go_wp2_with fail
      exact ⟨_, _, _, _, true, _, _, _, _, _, _, _, _, _, _, _, _, _, _, _, _, _, _, _, _, _, _, _, _, _, _, _, _, rfl, rfl, H0, H1, H2, (fun _ => rfl), (fun _ => rfl), H5, H6, H7, H8, H9, H10, H11, H12, H13, H14, H15, H16, HB, HSZ⟩
    · obtain rfl : _ = o := Option.some.inj ho
      obtain ⟨hc, hf⟩ := bcell HB.out
      go_wp2_with fail
      exact ⟨_, _, _, _, _, true, _, _, _, _, _, _, _, _, _, _, _, _, _, _, _, _, _, _, _, _, _, _, _, _, _, _, _, rfl, rfl, H0, H1, H2, H3, H4, (fun _ => rfl), H6, H7, H8, H9, H10, H11, H12, H13, H14, H15, H16, HB, HSZ⟩
    · obtain rfl : _ = o := Option.some.inj ho
      obtain ⟨hc, hf⟩ := bcell HB.out
      go_wp2_with fail
      exact ⟨_, _, _, _, _, _, true, _, _, _, _, _, _, _, _, _, _, _, _, _, _, _, _, _, _, _, _, _, _, _, _, _, _, rfl, rfl, H0, H1, H2, H3, H4, H5, (fun _ => rfl), H7, H8, H9, H10, H11, H12, H13, H14, H15, H16, HB, HSZ⟩
    · obtain rfl : _ = o := Option.some.inj ho
      obtain ⟨hc, hf⟩ := bcell HB.out
      have d6 : l6 = true := haf ⟨6, .data⟩ (by simp) rfl
      obtain rfl := H6.out d6
      go_wp2_with fail
      exact ⟨_, _, _, _, _, _, _, true, _, _, _, _, _, _, _, _, _, _, _, _, _, _, _, _, _, _, _, _, _, _, _, _, _, rfl, rfl, H0, H1, H2, H3, H4, H5, (fun _ => rfl), (fun _ => rfl), H8, H9, H10, H11, H12, H13, H14, H15, H16, HB, HSZ⟩
    · obtain rfl : _ = o := Option.some.inj ho
      obtain ⟨hc, hf⟩ := bcell HB.out
      have d7 : l7 = true := haf ⟨7, .data⟩ (by simp) rfl
      obtain rfl := H7.out d7
      go_wp2_with fail
      exact ⟨_, _, _, _, _, _, _, _, true, _, _, _, _, _, _, _, _, _, _, _, _, _, _, _, _, _, _, _, _, _, _, _, _, rfl, rfl, H0, H1, H2, H3, H4, H5, H6, (fun _ => rfl), (fun _ => rfl), H9, H10, H11, H12, H13, H14, H15, H16, HB, HSZ⟩
    · obtain rfl : _ = o := Option.some.inj ho
      obtain ⟨hc, hf⟩ := bcell HB.out
      have d8 : l8 = true := haf ⟨8, .data⟩ (by simp) rfl
      obtain rfl := H8.out d8
      go_wp2_with fail
      exact ⟨_, _, _, _, _, _, _, _, _, true, _, _, _, _, _, _, _, _, _, _, _, _, _, _, _, _, _, _, _, _, _, _, _, rfl, rfl, H0, H1, H2, H3, H4, H5, H6, H7, (fun _ => rfl), (fun _ => rfl), H10, H11, H12, H13, H14, H15, H16, HB, HSZ⟩
    · obtain rfl : _ = o := Option.some.inj ho
      obtain ⟨hc, hf⟩ := bcell HB.out
      have d9 : l9 = true := haf ⟨9, .data⟩ (by simp) rfl
      obtain rfl := H9.out d9
      go_wp2_with fail
      exact ⟨_, _, _, _, _, _, _, _, _, _, true, _, _, _, _, _, _, _, _, _, _, _, _, _, _, _, _, _, _, _, _, _, _, rfl, rfl, H0, H1, H2, H3, H4, H5, H6, H7, H8, (fun _ => rfl), (fun _ => rfl), H11, H12, H13, H14, H15, H16, HB, HSZ⟩
    · obtain rfl : _ = o := Option.some.inj ho
      obtain ⟨hc, hf⟩ := bcell HB.out
      have d4 : l4 = true := haf ⟨4, .data⟩ (by simp) rfl
      obtain rfl := H4.out d4
      have d5 : l5 = true := haf ⟨5, .data⟩ (by simp) rfl
      obtain rfl := H5.out d5
      have d10 : l10 = true := haf ⟨10, .data⟩ (by simp) rfl
      obtain rfl := H10.out d10
      have hsl := HSL.out w'
      go_wp2_with fail
      exact ⟨_, _, _, _, _, _, _, _, _, _, _, true, _, _, _, _, _, _, _, _, _, _, _, _, _, _, _, _, _, _, _, _, _, rfl, rfl, H0, H1, H2, H3, (fun _ => rfl), (fun _ => rfl), H6, H7, H8, H9, (fun _ => rfl), (fun _ => rfl), H12, H13, H14, H15, H16, HB, HSZ⟩
    · obtain rfl : _ = o := Option.some.inj ho
      obtain ⟨hc, hf⟩ := bcell HB.out
      have d11 : l11 = true := haf ⟨11, .data⟩ (by simp) rfl
      obtain rfl := H11.out d11
      have hcv := HCV.out w' HB.out
      go_wp2_with fail
      exact ⟨_, _, _, _, _, _, _, _, _, _, _, _, true, _, _, _, _, _, _, _, _, _, _, _, _, _, _, _, _, _, _, _, _, rfl, rfl, H0, H1, H2, H3, H4, H5, H6, H7, H8, H9, H10, (fun _ => rfl), (fun _ => rfl), H13, H14, H15, H16, HB, HSZ⟩
    · obtain rfl : _ = o := Option.some.inj ho
      obtain ⟨hc, hf⟩ := bcell HB.out
      have d12 : l12 = true := haf ⟨12, .data⟩ (by simp) rfl
      obtain rfl := H12.out d12
      go_wp2_with fail
      refine (lower_any _ HLE.out _).mono ?_
      rintro e w2 ⟨rfl, hb1⟩
      have hk := fun k h => hb1.block k h
      go_wp2_with fail
      exact ⟨_, _, _, _, _, _, _, _, _, _, _, _, _, true, _, _, _, _, _, _, _, _, _, _, _, _, _, _, _, _, _, _, _, rfl, rfl, H0, H1, H2, H3, H4, H5, H6, H7, H8, H9, H10, H11, (fun _ => rfl), (fun _ => rfl), H14, (keep_at (c := fun _ => _) (c1 := fun _ => _) rfl H15.out hk), H16, (HB.out.trans (hb1.mono HSZ.out)), (Nat.le_trans HSZ.out hb1.size)⟩
    · obtain rfl : _ = o := Option.some.inj ho
      obtain ⟨hc, hf⟩ := bcell HB.out
      have d13 : l13 = true := haf ⟨13, .data⟩ (by simp) rfl
      obtain rfl := H13.out d13
      go_wp2_with fail
      exact ⟨_, _, _, _, _, _, _, _, _, _, _, _, _, _, true, _, _, _, _, _, _, _, _, _, _, _, _, _, _, _, _, _, _, rfl, rfl, H0, H1, H2, H3, H4, H5, H6, H7, H8, H9, H10, H11, H12, (fun _ => rfl), (fun _ => rfl), H15, H16, HB, HSZ⟩
    · obtain rfl : _ = o := Option.some.inj ho
      obtain ⟨hc, hf⟩ := bcell HB.out
      have hls : l16 = false := by cases l16 with | false => rfl | true => exact absurd (H16.out rfl) (by rw [show l15 = false from hl]; decide)
      subst hls
      go_wp2_with fail
      exact ⟨_, _, _, _, _, _, _, _, _, _, _, _, _, _, _, true, _, _, _, _, _, _, _, _, _, _, _, _, _, _, _, _, _, rfl, rfl, H0, H1, H2, H3, H4, H5, H6, H7, H8, H9, H10, H11, H12, H13, H14, (fun _ => ⟨_, rfl, HSZ.out, heap_alloc_new _ _⟩), (fun h => by cases h), (HB.out.alloc HSZ.out _), (by show _ ≤ _; have := HSZ.out; simp; omega)⟩
    · obtain rfl : _ = o := Option.some.inj ho
      obtain ⟨hc, hf⟩ := bcell HB.out
      have d15 : l15 = true := haf ⟨15, .data⟩ (by simp) rfl
      have d14 : l14 = true := haf ⟨14, .data⟩ (by simp) rfl
      obtain rfl := H14.out d14
      have hls : l16 = false := hl
      obtain ⟨p, rfl, hp, hheap⟩ := H15.out d15
      subst hls
      simp only [Bool.false_eq_true, if_false] at hheap
      refine wpList_store_row rfl 307 (.tmp 3) (.tmp 36) rfl p #[.string (lowerB (s.extract i E)), .string ⟨#[]⟩] rfl rfl _ #[.string ⟨#[]⟩, .string ⟨#[]⟩] hheap (by kernel_rfl) rfl (by simp [Value.oneCell']) ?_
      have hz : (w'.setRow p #[.string (lowerB (s.extract i E)), .string ⟨#[]⟩]).heap.size = w'.heap.size := by simp [World.setRow]
      have hat : (w'.setRow p #[.string (lowerB (s.extract i E)), .string ⟨#[]⟩]).heap[p]? = some (.cells #[.string (lowerB (s.extract i E)), .string ⟨#[]⟩] 307 (0, 0)) := by simp [World.setRow, Array.getElem?_modify, hheap]
      exact ⟨_, _, _, _, _, _, _, _, _, _, _, _, _, _, _, _, true, _, _, _, _, _, _, _, _, _, _, _, _, _, _, _, _, rfl, rfl, H0, H1, H2, H3, H4, H5, H6, H7, H8, H9, H10, H11, H12, H13, (fun _ => rfl), (fun _ => ⟨p, rfl, hp, hat⟩), (fun _ => d15), (below_setRow HB.out hp _), (by show _ ≤ _; rw [hz]; exact HSZ.out)⟩
    · exact absurd ho (by simp)
  case hend =>
    rintro L a w3 ⟨l0, l1, l2, l3, l4, l5, l6, l7, l8, l9, l10, l11, l12, l13, l14, l15, l16, x3, x22, x23, x24, x25, x26, x27, x28, x29, x30, x31, x32, x33, x34, x35, x36, rfl, rfl, H0, H1, H2, H3, H4, H5, H6, H7, H8, H9, H10, H11, H12, H13, H14, H15, H16, HB, HSZ⟩ hall
    have h15 : l15 = true := hall 15 (by simp)
    have h16 : l16 = true := hall 16 (by simp)
    subst h15 h16
    obtain ⟨p, rfl, hp, hhp⟩ := H15.out rfl
    simp only [if_true] at hhp
    have HPB := hid (show Blk w3 p 307 _ from hhp)
    have HB3 := hid (HB1.out.below HB.out hgl1)
    have HZ3 := hid (Bytes.keepAt HZ1.out fun k => World.cell?_of_block (HB.out.block b hbl1))
    have hz3 := HSZ.out
    have hbp : b ≠ p := by omega
    have hgp : g ≠ p := by omega
    clear hall H0 H1 H2 H3 H4 H5 H6 H7 H8 H9 H10 H11 H12 H13 H14 H15 H16 hhp HPASS HSL HCV c0 c1
    have hpass := fun (w4 : World) (h2 : b < w4.heap.size) (h3 : Lib.Bytes w4 b off s) (h4 : Blk w4 g 206 (rdr b off n cap E kd sz nm v sg cl)) =>
      pass_any 206 g b off n cap E _ s HN.out hEn hcap hc63 133 #[] blankB (fun _ => True) w4 (fun args w => by kernel_rfl)
        (fun W c _ => blank_any c W) (fun W' hW' => trivial) hb h2 h3 h4
    go_wp2_with fail
    refine (hpass _ (by omega) HZ3.out HB3.out).mono ?_
    clear hpass
    rintro e w4 ⟨rfl, hG4, hB4⟩
    have hown3 : w3.ownsRow B 307 2 v m xs := own_kept HOWN1.out (grown_of_below HB.out none) fun k hk e => by cases e
    have hown4 : w4.ownsRow B 307 2 v m xs := own_kept hown3 hG4 fun k hk e => HROW.out k hk (Option.some.inj e).symm
    have hltp : ∀ k, v.ownBlock = some k → k ≠ p := fun k hk e => by have := own_lt HOWN1.out hk; omega
    have HLTP := hid hltp
    have HOWN4 := hid hown4
    have HP4 := hid (HPB.out.grown hG4 (fun e => hgp (Option.some.inj e).symm))
    have HZ4 := hid (Bytes.keepAt HZ3.out fun k => World.cell?_of_block (hG4.block b (by omega) (fun e => hb (Option.some.inj e))))
    have HB4B := hid ((HB1B.out.trans (HB.out.mono (by omega : B ≤ w1.heap.size))).trans (below_of_grown hG4 hgB (by omega)))
    have hz4 : w3.heap.size ≤ w4.heap.size := hG4.size
    have hk1 := passTo_le blankB s (i := E) hE2
    generalize hkd : passTo blankB s E = k at hB4 hk1
    rw [hkd] at HA
    generalize s.extract E k = txt2
    have c0 := hB4.cell 0
    have c1 := hB4.cell 1
    simp only [List.getElem?_toArray, List.getElem?_cons_zero, List.getElem?_cons_succ] at c0 c1
    have hpk := peek_any g b off cap k s n HN.out w4 HZ4.out ⟨c0, c1⟩
    have HB4 := hid hB4
    clear hown3 hown4 hltp hG4 hB4 c0 c1
    go_wp2_with fail
    refine hpk.mono ?_
    clear hpk
    rintro e w5 ⟨rfl, nd, rfl⟩
    go_upto_if 45 with fail
    go_cut [] (fun wx => Hid (Blk wx g 206 (rdr b off n cap (valueAt s k).2 kd sz nm v sg cl)) ∧ Hid (Blk wx p 307 #[.string (lowerB (s.extract i E)), .string (valueAt s k).1]) ∧ Hid (Below B w wx) ∧ Hid (wx.ownsRow B 307 2 v m xs) ∧ Hid (p < wx.heap.size))
    case first =>
      have hE1 := HB4.out.drewN nd
      have hP1 := HP4.out.drewN nd
      by_cases h61 : pk s k = 61
      · have hks : k < s.size := by
          by_cases hks : k < s.size
          · exact hks
          · unfold pk at h61; rw [if_neg hks] at h61; cases h61
        have hva : valueAt s k = valueV s k := by unfold valueAt; unfold pk at h61; rw [if_pos hks] at h61; rw [if_pos ⟨hks, h61⟩]
        rw [show (pk s k == 61) = true by rw [h61]; rfl]
        have hval := value_any 206 g b off n cap k _ s HN.out (by have := HN.out; omega) hcap hc63 (w4.drewN nd) hb (by simp; omega) (HZ4.out.drewN nd) hE1
        have HVAL := hid hval
        have HVA := hid hva
        clear hval hE1 hP1 h61 hva
        go_wp2_with fail
        refine HVAL.out.mono ?_
        rintro e w6 ⟨rfl, hG6, hB6⟩
        have hP6 := (HP4.out.drewN nd).grown hG6 (fun e => hgp (Option.some.inj e).symm)
        have cp1 := hP6.cell 1
        have fp := hP6.frozen
        simp only [List.getElem?_toArray, List.getElem?_cons_zero, List.getElem?_cons_succ] at cp1
        have HG6 := hid hG6
        have HB6 := hid hB6
        have HP6 := hid hP6
        clear hG6 hB6 hP6
        go_wp2_with fail
        go_meet
        rw [HVA.out]
        refine ⟨HB6.out.far hgp _, (by show Blk _ _ _ _; simpa using HP6.out.set_ 1 _), ?_, ?_, ?_⟩
        · exact (HB4B.out.trans (below_of_grown ((grown_drewN w4 nd (some g)).trans HG6.out) hgB (by omega))).setCell (p := ⟨p, 1, none⟩) (by show B ≤ p; omega) _
        · refine own_kept (own_kept (HOWN4.out) ((grown_drewN w4 nd (some g)).trans HG6.out) fun k hk e => HROW.out k hk (Option.some.inj e).symm) (grown_set w6 p 1 _) fun k hk e => HLTP.out k hk (Option.some.inj e).symm
        · show _ < _
          rw [size_set]
          exact HP6.out.lt
      · have hva : valueAt s k = (⟨#[]⟩, k) := by
          unfold valueAt
          rw [if_neg]
          rintro ⟨h1, h2⟩
          unfold pk at h61
          rw [if_pos h1] at h61
          exact h61 h2
        rw [show (pk s k == 61) = false by simpa using h61]
        have HVA := hid hva
        clear h61 hva
        go_wp2_with fail
        go_meet
        rw [HVA.out]
        exact ⟨hE1, hP1, HB4B.out.trans (below_drewN _ _ nd), own_drewN HOWN4.out nd, hP1.lt⟩
    case rest =>
      obtain ⟨HBg, HBp, HBB, HOW, HPL⟩ := hcut
      have hpl := HPL.out
      have hBl : B ≤ wc.heap.size := by omega
      generalize hka : (valueAt s k).2 = k2 at *
      generalize hta : (valueAt s k).1 = tv at *
      generalize htn : lowerB (s.extract i E) = tn at *
      obtain ⟨i0, hi0, hz0, hz1, hz2⟩ := info_parts info_attr
      go_upto_region 7 with fail
      refine wp_region_inv (attrInv7 B g b off n cap i k2 p kd sz nm v sg cl m xs tn tv u4 u5 u6 u7 u8 u9 u10 u11 u12 u13 u14 u15 u16 u17 u18 u19 u20 u21 u22 u23 u24 u25 u26 u27 u28 u29 u30 u31 u32 u33 u34 u35 u36 u37 u38 u39 u40 u41 u42 u43 u44 u45 u46 u47 u48 w) rfl (by kernel_rfl) ?h0 ?hstep ?hend
      case h0 =>
        exact ⟨false, false, false, false, false, false, false, false, false, false, false, false, false, _, _, _, _, _, _, _, _, _, _, _, _, rfl, rfl, (fun h => by cases h), (fun h => by cases h), (fun h => by cases h), (fun h => by cases h), (fun h => by cases h), (fun h => by cases h), (fun h => by cases h), (fun h => by cases h), (fun h => by cases h), (fun h => by cases h), (fun h => by cases h), (fun h => by cases h), (fun h => by cases h), (HBB.out.trans (below_drewN _ _ 1)), (fun _ => own_drewN HOW.out 1), (fun _ => HBg.out.drewN 1), (HBp.out.drewN 1), (by show _ ≤ _; simp; omega), (fun h => by cases h), (fun h => by cases h)⟩
      case hstep =>
        rintro L a w' ix o ⟨l0, l1, l2, l3, l4, l5, l6, l7, l8, l9, l10, l11, l12, x49, x50, x51, x52, x53, x54, x55, x56, x57, x58, x59, x60, rfl, rfl, H0, H1, H2, H3, H4, H5, H6, H7, H8, H9, H10, H11, H12, HB, HO, HG, HP, HL, HD8, HD12⟩ ho hl haf
        rcases ix with _ | _ | _ | _ | _ | _ | _ | _ | _ | _ | _ | _ | _ | ix
        · obtain rfl : _ = o := Option.some.inj ho
          have hl : l0 = false := hl
          subst hl
          go_wp2_with fail
          exact ⟨true, _, _, _, _, _, _, _, _, _, _, _, _, _, _, _, _, _, _, _, _, _, _, _, _, rfl, rfl, (fun _ => rfl), H1, H2, H3, H4, H5, H6, H7, H8, H9, H10, H11, H12, HB, HO, HG, HP, HL, HD8, HD12⟩
        · obtain rfl : _ = o := Option.some.inj ho
          have hl : l1 = false := hl
          subst hl
          go_wp2_with fail
          exact ⟨_, true, _, _, _, _, _, _, _, _, _, _, _, _, _, _, _, _, _, _, _, _, _, _, _, rfl, rfl, H0, (fun _ => rfl), H2, H3, H4, H5, H6, H7, H8, H9, H10, H11, H12, HB, HO, HG, HP, HL, HD8, HD12⟩
        · obtain rfl : _ = o := Option.some.inj ho
          have hl : l2 = false := hl
          subst hl
          have d1 : l1 = true := haf ⟨1, .data⟩ (by simp) rfl
          obtain rfl := H1.out d1
          subst d1
          go_wp2_with fail
          exact ⟨_, _, true, _, _, _, _, _, _, _, _, _, _, _, _, _, _, _, _, _, _, _, _, _, _, rfl, rfl, H0, (fun _ => rfl), (fun _ => rfl), H3, H4, H5, H6, H7, H8, H9, H10, H11, H12, HB, HO, HG, HP, HL, HD8, HD12⟩
        · obtain rfl : _ = o := Option.some.inj ho
          have hl : l3 = false := hl
          subst hl
          have d2 : l2 = true := haf ⟨2, .data⟩ (by simp) rfl
          obtain rfl := H2.out d2
          subst d2
          go_wp2_with fail
          exact ⟨_, _, _, true, _, _, _, _, _, _, _, _, _, _, _, _, _, _, _, _, _, _, _, _, _, rfl, rfl, H0, H1, (fun _ => rfl), (fun _ => rfl), H4, H5, H6, H7, H8, H9, H10, H11, H12, HB, HO, HG, HP, HL, HD8, HD12⟩
        · obtain rfl : _ = o := Option.some.inj ho
          have hl : l4 = false := hl
          subst hl
          have d3 : l3 = true := haf ⟨3, .data⟩ (by simp) rfl
          obtain rfl := H3.out d3
          subst d3
          go_wp2_with fail
          exact ⟨_, _, _, _, true, _, _, _, _, _, _, _, _, _, _, _, _, _, _, _, _, _, _, _, _, rfl, rfl, H0, H1, H2, (fun _ => rfl), (fun _ => rfl), H5, H6, H7, H8, H9, H10, H11, H12, HB, HO, HG, HP, HL, HD8, HD12⟩
        · obtain rfl : _ = o := Option.some.inj ho
          have hl : l5 = false := hl
          subst hl
          have d4 : l4 = true := haf ⟨4, .data⟩ (by simp) rfl
          obtain rfl := H4.out d4
          subst d4
          obtain rfl : l12 = false := by cases l12 with | false => rfl | true => exact absurd (HD8.out (HD12.out rfl)).1 (by decide)
          have cg := (HG.out rfl).cell 5
          simp only [rdr, List.getElem?_toArray, List.getElem?_cons_zero, List.getElem?_cons_succ] at cg
          have hgg := HG.out rfl
          go_wp2_with fail
          exact ⟨_, _, _, _, _, true, _, _, _, _, _, _, _, _, _, _, _, _, _, _, _, _, _, _, _, rfl, rfl, H0, H1, H2, H3, (fun _ => rfl), (fun _ => rfl), H6, H7, H8, H9, H10, H11, (fun h => by cases h), HB, HO, (fun _ => hgg), HP, HL, (fun h => ⟨rfl, (HD8.out h).2⟩), (fun h => by cases h)⟩
        · obtain rfl : _ = o := Option.some.inj ho
          have hl : l6 = false := hl
          subst hl
          have cp0 := HP.out.cell 0
          have cp1 := HP.out.cell 1
          simp only [List.getElem?_toArray, List.getElem?_cons_zero, List.getElem?_cons_succ] at cp0 cp1
          go_wp2_with fail
          exact ⟨_, _, _, _, _, _, true, _, _, _, _, _, _, _, _, _, _, _, _, _, _, _, _, _, _, rfl, rfl, H0, H1, H2, H3, H4, H5, (fun _ => rfl), H7, H8, H9, H10, H11, H12, HB, HO, HG, HP, HL, HD8, HD12⟩
        · obtain rfl : _ = o := Option.some.inj ho
          have hl : l7 = false := hl
          subst hl
          have d6 : l6 = true := haf ⟨6, .data⟩ (by simp) rfl
          obtain rfl := H6.out d6
          subst d6
          obtain rfl : l8 = false := by cases l8 with | false => rfl | true => exact absurd (HD8.out rfl).2 (by decide)
          have ho8 := HO.out rfl
          go_wp2_with fail
          exact ⟨_, _, _, _, _, _, _, true, _, _, _, _, _, _, _, _, _, _, _, _, _, _, _, _, _, rfl, rfl, H0, H1, H2, H3, H4, H5, (fun _ => rfl), (fun _ => ⟨_, rfl, Blk.new _ _ _, fun _ e => by have := own_lt ho8 e; omega⟩), (fun h => by cases h), H9, H10, H11, (fun h => (H12.out h).alloc _), (HB.out.alloc HL.out _), (fun _ => ho8.alloc _), (fun h => (HG.out h).alloc _), (HP.out.alloc _), (by show _ ≤ _; have := HL.out; simp; omega), (fun h => by cases h), HD12⟩
        · obtain rfl : _ = o := Option.some.inj ho
          have hl : l8 = false := hl
          subst hl
          have d5 : l5 = true := haf ⟨5, .data⟩ (by simp) rfl
          obtain rfl := H5.out d5
          subst d5
          have d7 : l7 = true := haf ⟨7, .data⟩ (by simp) rfl
          subst d7
          obtain rfl : l12 = false := by cases l12 with | false => rfl | true => exact absurd (HD12.out rfl) (by decide)
          obtain ⟨q, rfl, hq, hqn⟩ := H7.out rfl
          have ho8 := HO.out rfl
          have hgg := HG.out rfl
          have hqn := hqn rfl
          refine wpList_append_any w' rfl (.tmp 54) (.tmp 56) 108 rfl B 307 i0 (.agg #[.string ⟨#[]⟩, .string ⟨#[]⟩]) 2 32 Tryz.underlying108 hi0 hz0 hz1 hz2 rfl (by decide) x54 m xs rfl ho8 w'.heap.size (some ⟨q, 0, none⟩) 1 1 [.string tn, .string tv] rfl (reads_blk2 hq) (by simp [Value.oneCell']) (by unfold maxLen; omega) (by omega) HL.out ?_
          intro v' w2 ho2 hg2 hl2
          exact ⟨_, _, _, _, _, _, _, _, true, _, _, _, _, _, _, _, _, _, _, _, _, _, _, _, _, rfl, rfl, H0, H1, H2, H3, H4, (fun _ => rfl), H6, (fun _ => ⟨q, rfl, hq.grown hg2 (Ne.symm hqn), fun h => by cases h⟩), (fun _ => ho2), H9, H10, H11, (fun h => by cases h), (HB.out.grown hg2 HL.out (own_ge ho8)), (fun h => by cases h), (fun _ => hgg.grown hg2 (fun e => HROW.out g e.symm rfl)), (HP.out.grown hg2 (fun e => HLTP.out p e.symm rfl)), (Nat.le_trans HL.out hg2.size), (fun _ => ⟨rfl, rfl⟩), (fun h => by cases h)⟩
        · obtain rfl : _ = o := Option.some.inj ho
          have hl : l9 = false := hl
          subst hl
          have d0 : l0 = true := haf ⟨0, .data⟩ (by simp) rfl
          obtain rfl := H0.out d0
          subst d0
          go_wp2_with fail
          exact ⟨_, _, _, _, _, _, _, _, _, true, _, _, _, _, _, _, _, _, _, _, _, _, _, _, _, rfl, rfl, (fun _ => rfl), H1, H2, H3, H4, H5, H6, H7, H8, (fun _ => rfl), H10, H11, H12, HB, HO, HG, HP, HL, HD8, HD12⟩
        · obtain rfl : _ = o := Option.some.inj ho
          have hl : l10 = false := hl
          subst hl
          have d9 : l9 = true := haf ⟨9, .data⟩ (by simp) rfl
          obtain rfl := H9.out d9
          subst d9
          go_wp2_with fail
          exact ⟨_, _, _, _, _, _, _, _, _, _, true, _, _, _, _, _, _, _, _, _, _, _, _, _, _, rfl, rfl, H0, H1, H2, H3, H4, H5, H6, H7, H8, (fun _ => rfl), (fun _ => rfl), H11, H12, HB, HO, HG, HP, HL, HD8, HD12⟩
        · obtain rfl : _ = o := Option.some.inj ho
          have hl : l11 = false := hl
          subst hl
          have d10 : l10 = true := haf ⟨10, .data⟩ (by simp) rfl
          obtain rfl := H10.out d10
          subst d10
          go_wp2_with fail
          exact ⟨_, _, _, _, _, _, _, _, _, _, _, true, _, _, _, _, _, _, _, _, _, _, _, _, _, rfl, rfl, H0, H1, H2, H3, H4, H5, H6, H7, H8, H9, (fun _ => rfl), (fun _ => rfl), H12, HB, HO, HG, HP, HL, HD8, HD12⟩
        · obtain rfl : _ = o := Option.some.inj ho
          have hl : l12 = false := hl
          subst hl
          have d11 : l11 = true := haf ⟨11, .data⟩ (by simp) rfl
          obtain rfl := H11.out d11
          subst d11
          have d8 : l8 = true := haf ⟨8, .data⟩ (by simp) rfl
          subst d8
          have ho8 := H8.out rfl
          obtain ⟨a57, c57, rfl, _⟩ := owns_form ho8
          have hgg := HG.out rfl
          have hrg := own_blk_ne ho8 hgg (by decide)
          have cg := hgg.cell 5
          have frg := hgg.frozen
          simp only [rdr, List.getElem?_toArray, List.getElem?_cons_zero, List.getElem?_cons_succ] at cg
          obtain ⟨rfl, rfl⟩ := HD8.out rfl
          have HG9 := hid hgg
          have HO8 := hid ho8
          clear ho8 hgg
          go_wp2_with fail
          exact ⟨_, _, _, _, _, _, _, _, _, _, _, _, true, _, _, _, _, _, _, _, _, _, _, _, _, rfl, rfl, H0, H1, H2, H3, H4, (fun _ => H5.out trivial), H6, (fun h => by obtain ⟨q, e, hq, hn⟩ := H7.out trivial; exact ⟨q, e, hq.far (hq.ne_ HG9.out (by decide)) _, fun h => by cases h⟩), (fun _ => own_kept HO8.out (grown_set _ g 5 _) fun k hk e => hrg (hk.trans e.symm)), H9, H10, (fun _ => rfl), (fun _ => by simpa [rdr] using HG9.out.set_ 5 _), (HB.out.setCell (p := ⟨g, 5, none⟩) hgB _), (fun h => by cases h), (fun h => by cases h), (HP.out.far (Ne.symm hgp) _), (by show _ ≤ _; rw [size_set]; exact HL.out), (fun _ => ⟨rfl, rfl⟩), (fun _ => rfl)⟩
        · exact absurd ho (by simp)
      case hend =>
        rintro L a wz ⟨l0, l1, l2, l3, l4, l5, l6, l7, l8, l9, l10, l11, l12, x49, x50, x51, x52, x53, x54, x55, x56, x57, x58, x59, x60, rfl, rfl, H0, H1, H2, H3, H4, H5, H6, H7, H8, H9, H10, H11, H12, HB, HO, HG, HP, HL, HD8, HD12⟩ hall
        have h8 : l8 = true := hall 8 (by simp)
        have h12 : l12 = true := hall 12 (by simp)
        subst h8 h12
        have ho := H8.out rfl
        have hg := H12.out rfl
        have hb2 := HB.out
        clear hall H0 H1 H2 H3 H4 H5 H6 H7 H8 H9 H10 H11 H12 HB HO HG HP HL HD8 HD12
        go_wp2_with fail
        go_end0
        rw [HA.out]
        exact ⟨rfl, hb2, _, hg, ho⟩

end Go.Proofs.YtpnbkecchfhimaaGreatDoor

/- out of TagR -/
namespace Go.Proofs.YtpnbkecchfhimaaGreatDoor
set_option maxRecDepth 100000
open Go.RowKit
open Go.Lib (hid)
set_option linter.unusedVariables false

/-- Does a text end with a slash? -/
def endSl (x : ByteArray) : Bool := decide (1 ≤ x.size) && ((x.extract (x.size - 1) x.size).toList == (⟨#[47]⟩ : ByteArray).toList)

theorem lsuffix_any (s : ByteArray) (w : World) (hs : s.size ≤ 9223372036854775807) :
    Calls Tryz.prog 212 #[.string s, .string ⟨#[47]⟩] w fun e w' => e = .returned (.bool (endSl s)) ∧ w' = w := by
  unfold endSl
  go_enter Tryz.func212, Tryz.ntmps212
  by_cases h : 1 ≤ s.size
  · have h1 : (1 : Int) ≤ (s.size : Int) := by omega
    have hlo : ((s.size : Int) - 1 + 9223372036854775808) % 18446744073709551616 - 9223372036854775808 = ((s.size - 1 : Nat) : Int) := by omega
    go_wp2_with fail
    go_ret
    exact ⟨ret_bool (by simp [h]), rfl⟩
  · have h1 : ¬ (1 : Int) ≤ (s.size : Int) := by omega
    go_wp2_with fail
    go_ret
    exact ⟨ret_bool (by simp), rfl⟩
theorem suffix_any (s : ByteArray) (w : World) (hs : s.size ≤ 9223372036854775807) :
    Calls Tryz.prog 179 #[.string s, .string ⟨#[47]⟩] w fun e w' => e = .returned (.bool (endSl s)) ∧ w' = w := by
  go_enter Tryz.func179, Tryz.ntmps179
  go_wp2_with fail
  refine (lsuffix_any s w hs).mono ?_
  rintro e w1 ⟨rfl, rfl⟩
  go_wp2_with fail
  go_ret
  exact ⟨rfl, rfl⟩

theorem quotedV_bd (q : Int) (s : ByteArray) (i : Nat) (h : i < s.size) : i < (quotedV q s i).2 ∧ (quotedV q s i).2 ≤ s.size := by
  have h1 := passTo_ge (fun c => c != q) s (i + 1)
  have h2 := passTo_le (fun c => c != q) s (i := i + 1) (by omega)
  unfold quotedV
  simp only
  split <;> omega
theorem valueV_bd (s : ByteArray) (i : Nat) (h : i < s.size) : i < (valueV s i).2 ∧ (valueV s i).2 ≤ s.size := by
  have h1 := passTo_ge blankB s (i + 1)
  have h2 := passTo_le blankB s (i := i + 1) (by omega)
  unfold valueV
  simp only
  split
  · rename_i hk
    have := quotedV_bd (byt s (passTo blankB s (i + 1))) s (passTo blankB s (i + 1)) hk.1
    omega
  · have h3 := passTo_ge valC s (passTo blankB s (i + 1))
    have h4 := passTo_le valC s h2
    simp only
    omega
theorem attrV_bd (s : ByteArray) (i : Nat) (h : i < s.size) : i < (attrV s i).2 ∧ (attrV s i).2 ≤ s.size := by
  have h1 := passTo_ge attrC s (i + 1)
  have h2 := passTo_le attrC s (i := i + 1) (by omega)
  have h3 := passTo_ge blankB s (nameEnd s i)
  have h4 := passTo_le blankB s (i := nameEnd s i) (by unfold nameEnd; omega)
  unfold nameEnd at h3 h4
  unfold attrV valueAt nameEnd
  simp only
  split
  · rename_i hk
    have := valueV_bd s _ hk.1
    omega
  · simp only; omega

/-- What a reader has read. -/
structure Rd where
  attrs : List (ByteArray × ByteArray)
  at_ : Nat
  single : Bool
  closed : Bool
/-- The rest of a mark from i on. -/
def restGo (s : ByteArray) : Nat → Nat → List (ByteArray × ByteArray) → Rd
  | 0, i, acc => ⟨acc, i, false, false⟩
  | f + 1, i, acc =>
    if s.size ≤ passTo skipC s i then ⟨acc, passTo skipC s i, false, false⟩
    else if byt s (passTo skipC s i) = 62 then ⟨acc, passTo skipC s i + 1, endSl (s.extract i (passTo skipC s i)), true⟩
    else restGo s f (attrV s (passTo skipC s i)).2 (acc ++ [(attrV s (passTo skipC s i)).1])
def restAt (s : ByteArray) (i : Nat) (acc : List (ByteArray × ByteArray)) : Rd := restGo s (s.size + 1 - i) i acc

theorem restGo_fuel (s : ByteArray) : ∀ (f f' i : Nat) (acc : List (ByteArray × ByteArray)), s.size + 1 - i ≤ f → s.size + 1 - i ≤ f' → i ≤ s.size → restGo s f i acc = restGo s f' i acc := by
  intro f
  induction f with
  | zero => intro f' i acc h1 h2 h3; omega
  | succ f ih =>
    intro f' i acc h1 h2 h3
    cases f' with
    | zero => omega
    | succ f' =>
      unfold restGo
      split
      · rfl
      · rename_i hk
        split
        · rfl
        · have h4 := passTo_ge skipC s i
          have h5 := attrV_bd s (passTo skipC s i) (by omega)
          exact ih f' _ _ (by omega) (by omega) h5.2
theorem restAt_end (s : ByteArray) (i : Nat) (acc) (hi : i ≤ s.size) (h : s.size ≤ passTo skipC s i) : restAt s i acc = ⟨acc, passTo skipC s i, false, false⟩ := by
  unfold restAt
  rw [show s.size + 1 - i = (s.size - i) + 1 by omega, restGo, if_pos h]
theorem restAt_close (s : ByteArray) (i : Nat) (acc) (hi : i ≤ s.size) (h : passTo skipC s i < s.size) (hc : byt s (passTo skipC s i) = 62) : restAt s i acc = ⟨acc, passTo skipC s i + 1, endSl (s.extract i (passTo skipC s i)), true⟩ := by
  unfold restAt
  rw [show s.size + 1 - i = (s.size - i) + 1 by omega, restGo, if_neg (by omega), if_pos hc]
theorem restAt_more (s : ByteArray) (i : Nat) (acc) (hi : i ≤ s.size) (h : passTo skipC s i < s.size) (hc : ¬ byt s (passTo skipC s i) = 62) : restAt s i acc = restAt s (attrV s (passTo skipC s i)).2 (acc ++ [(attrV s (passTo skipC s i)).1]) := by
  have h4 := passTo_ge skipC s i
  have h5 := attrV_bd s (passTo skipC s i) h
  unfold restAt
  rw [show s.size + 1 - i = (s.size - i) + 1 by omega, restGo, if_neg (by omega), if_neg hc]
  exact restGo_fuel s _ _ _ _ (by omega) (by omega) h5.2

/-- Attributes' cells. -/
def atCells (l : List (ByteArray × ByteArray)) : List Value := l.flatMap fun a => [.string a.1, .string a.2]
theorem atCells_snoc (l) (a : ByteArray × ByteArray) : atCells (l ++ [a]) = atCells l ++ [.string a.1, .string a.2] := by simp [atCells]

set_option maxRecDepth 100000 in
set_option maxHeartbeats 4000000 in
theorem rest_any (B g b off n cap i : Nat) (kd sz : Int) (nm : ByteArray) (v : Value) (s : ByteArray) (hn : n = s.size) (hi : i ≤ n) (hcap : n ≤ cap) (hc63 : cap ≤ 9223372036854775807)
    (hm : n ≤ 1048576) (w : World) (hbB : b < B) (hgB : B ≤ g) (hz : Lib.Bytes w b off s) (hblk : Blk w g 206 (rdr b off n cap i kd sz nm v false false)) (hown : w.ownsRow B 307 2 v 0 []) :
    Calls Tryz.prog 134 #[.pointer (some ⟨g, 0, none⟩)] w fun e w' =>
      e = .returned (.tuple #[]) ∧ Below B w w' ∧ ∃ v', Blk w' g 206 (rdr b off n cap (restAt s i []).at_ kd sz nm v' (restAt s i []).single (restAt s i []).closed) ∧ w'.ownsRow B 307 2 v' (restAt s i []).attrs.length (atCells (restAt s i []).attrs) := by
  have hgl := hblk.lt
  have hb : b ≠ g := by omega
  have HBK := hid hblk
  have HZ := hid hz
  have HN := hid hn
  have HOWN := hid hown
  clear hblk hz hn hown
  go_enter Tryz.func134, Tryz.ntmps134
  go_wp2_with fail
  go_loopg [2] n (fun kx s2 wr => ∃ (j : Nat) (acc : List (ByteArray × ByteArray)) (vr : Value), j ≤ n ∧ n - j ≤ kx ∧ acc.length ≤ j ∧ Hid (restAt s j acc = restAt s i []) ∧ Hid (Below B w wr) ∧ Hid (Blk wr g 206 (rdr b off n cap j kd sz nm vr false false)) ∧ Hid (wr.ownsRow B 307 2 vr acc.length (atCells acc)))
  case atStart => exact ⟨i, [], v, hi, by omega, Nat.zero_le _, rfl, Below.refl _ _, HBK.out, HOWN.out⟩
  case round =>
    obtain ⟨j, acc, vr, hj, hg, hal, HR, HB, HG, HO⟩ := hrel
    have hzr : Lib.Bytes wr b off s := Bytes.keepAt HZ.out fun k => World.cell?_of_block (HB.out.block b hbB)
    have hglr := HG.out.lt
    have hpass := pass_any 206 g b off n cap j _ s HN.out hj hcap hc63 177 #[] skipC (fun _ => True) wr (fun args w => by kernel_rfl)
      (fun W c _ => rest1_any c W) (fun W' hW' => trivial) hb (by omega) hzr HG.out
    have HPASS := hid hpass
    have HZR := hid hzr
    clear hpass hzr
    go_wp2_with fail
    refine HPASS.out.mono ?_
    rintro e w1 ⟨rfl, hG1, hB1⟩
    have hown1 : wr.ownsRow B 307 2 vr acc.length (atCells acc) := HO.out
    have hrow : ∀ k, vr.ownBlock = some k → k ≠ g := fun k hk e => own_blk_ne hown1 HG.out (by decide) (by rw [hk, e])
    have HO1 := hid (own_kept hown1 hG1 fun k hk e => hrow k hk (Option.some.inj e).symm)
    have HB1 := hid (HB.out.trans (below_of_grown hG1 hgB (by omega)))
    have HZ1 := hid (Bytes.keepAt HZR.out fun k => World.cell?_of_block (hG1.block b (by omega) (fun e => hb (Option.some.inj e))))
    have hk1 := passTo_le skipC s (i := j) (by have := HN.out; omega)
    have hk2 := passTo_ge skipC s j
    have hx := (show (s.extract j (passTo skipC s j)).size ≤ 9223372036854775807 by rw [ByteArray.size_extract]; have := HN.out; omega)
    have hend := restAt_end s j acc (by have := HN.out; omega)
    have hclose := restAt_close s j acc (by have := HN.out; omega)
    have hmore := restAt_more s j acc (by have := HN.out; omega)
    generalize passTo skipC s j = k at hB1 hk1 hk2 hx hend hclose hmore ⊢
    generalize s.extract j k = txt at hx hend hclose hmore ⊢
    have HEND := hid hend
    have HCLOSE := hid hclose
    have HMORE := hid hmore
    have c0 := hB1.cell 0
    have c1 := hB1.cell 1
    have fr := hB1.frozen
    simp only [List.getElem?_toArray, List.getElem?_cons_zero, List.getElem?_cons_succ] at c0 c1
    have hov := fun N => over_any g b off n cap k (w1.drewN N) ⟨c0, c1⟩
    have hpk := fun N => peek_any g b off cap k s n HN.out (w1.drewN N) (HZ1.out.drewN N) ⟨c0, c1⟩
    have HPK := hid hpk
    have HG1 := hid (show Blk w1 g 206 (rdr b off n cap k kd sz nm vr false false) from hB1)
    have hgl1 := hB1.lt
    clear hG1 hB1 hown1 hrow hend hclose hmore hpk HPASS
    by_cases hkn : n ≤ k
    · have hd : decide (n ≤ k) = true := by simpa using hkn
      rw [hd] at hov
      have HOV := hid hov
      have HE := hid (HR.out.symm.trans (HEND.out (by have := HN.out; omega)))
      clear hov hd
      go_wp2_with fail
      refine (HOV.out 0).mono ?_
      rintro e w2 ⟨rfl, nd, rfl⟩
      go_wp2_with fail
      (try simp only [Exit.inBlock, Exit.then])
      refine bodyPost_ret (results_none rfl _ _ _) rfl ?_
      rw [HE.out]
      exact ⟨rfl, HB1.out.trans (below_drewN _ _ nd), vr, HG1.out.drewN nd, own_drewN HO1.out nd⟩
    · have hd : decide (n ≤ k) = false := by simpa using hkn
      rw [hd] at hov
      have HOV := hid hov
      have hks : k < s.size := by have := HN.out; omega
      clear hov hd
      go_wp2_with fail
      refine (HOV.out 0).mono ?_
      rintro e w2 ⟨rfl, nd, rfl⟩
      go_wp2_with fail
      refine (HPK.out nd).mono ?_
      rintro e w3 ⟨rfl, nd3, rfl⟩
      have hpkv : pk s k = byt s k := by unfold pk; rw [if_pos hks]
      rw [hpkv]
      clear hpkv
      by_cases h62 : byt s k = 62
      · rw [h62]
        have HE := hid (HR.out.symm.trans (HCLOSE.out hks h62))
        have c1' := (HG1.out.drewN (nd + nd3)).cell 1
        have hSF := fun W => suffix_any txt W hx
        have HSF := hid hSF
        have hk1' : (k : Int) + 1 ≤ 9223372036854775807 := by omega
        clear h62 hSF hx c1'
        go_wp2_with fail
        refine (HSF.out _).mono ?_
        rintro e w4 ⟨rfl, rfl⟩
        have hg5 := (HG1.out.drewN (nd + nd3)).set_ 1 (.int .i64 ((k : Int) + 1))
        have hb5 : Below B w ((w1.drewN (nd + nd3)).setCell ⟨g, 1, none⟩ (.int .i64 ((k : Int) + 1))) := (HB1.out.trans (below_drewN _ _ _)).setCell (p := ⟨g, 1, none⟩) hgB _
        have hr5 : ∀ q, vr.ownBlock = some q → some g ≠ some q := fun q hq e => own_blk_ne HO1.out HG1.out (by decide) (hq.trans e.symm)
        have ho5 : ((w1.drewN (nd + nd3)).setCell ⟨g, 1, none⟩ (.int .i64 ((k : Int) + 1))).ownsRow B 307 2 vr acc.length (atCells acc) := own_kept (own_drewN HO1.out _) (grown_set _ g 1 _) hr5
        generalize (w1.drewN (nd + nd3)).setCell ⟨g, 1, none⟩ (.int .i64 ((k : Int) + 1)) = w5 at *
        have hg5' : Blk w5 g 206 (rdr b off n cap (k + 1) kd sz nm vr false false) := by simpa [rdr] using hg5
        have c6 := hg5'.cell 6
        have c7 := hg5'.cell 7
        have fr5 := hg5'.frozen
        simp only [rdr, List.getElem?_toArray, List.getElem?_cons_zero, List.getElem?_cons_succ] at c6 c7
        have HG5 := hid hg5'
        have HB5 := hid hb5
        have HO5 := hid ho5
        have HR5 := hid hr5
        clear hg5 hg5' hb5 ho5 hr5 fr c0 c1
        go_wp2_with fail
        (try simp only [Exit.inBlock, Exit.then])
        refine bodyPost_ret (results_none rfl _ _ _) rfl ?_
        rw [HE.out]
        refine ⟨rfl, (HB5.out.setCell (p := ⟨g, 7, none⟩) hgB _).setCell (p := ⟨g, 6, none⟩) hgB _, vr, ?_, ?_⟩
        · have := (HG5.out.set_ 7 (.bool true)).set_ 6 (.bool (endSl txt))
          simpa [rdr] using this
        · exact own_kept (own_kept HO5.out (grown_set _ g 7 _) HR5.out) (grown_set _ g 6 _) HR5.out
      · have h62b : (byt s k == 62) = false := by simpa using h62
        have HE := hid (HR.out.symm.trans (HMORE.out hks h62))
        have hbd := attrV_bd s k hks
        have hatt := attr_any B g b off n cap k kd sz nm vr false false acc.length (atCells acc) s HN.out (by omega) hcap hc63 (by omega) (w1.drewN (nd + nd3)) hbB hgB (HZ1.out.drewN _) (HG1.out.drewN _) (own_drewN HO1.out _)
        have HATT := hid hatt
        generalize byt s k = c at h62b
        rw [World.drewN_drewN]
        clear h62 hatt
        go_wp2_with fail
        refine HATT.out.mono ?_
        rintro e w4 ⟨rfl, hB4, v4, hG4, hO4⟩
        go_wp2_with fail
        go_roundg (n - (attrV s k).2)
        case measure => have := HN.out; omega
        case rel =>
          refine ⟨(attrV s k).2, acc ++ [(attrV s k).1], v4, by have := HN.out; omega, Nat.le_refl _, by simp; omega, HE.out.symm, HB1.out.trans ((below_drewN _ _ _).trans hB4), hG4, ?_⟩
          show World.ownsRow _ _ _ _ _ _ _
          rw [atCells_snoc, List.length_append]
          exact hO4

end Go.Proofs.YtpnbkecchfhimaaGreatDoor
