/- Texts of ExD, ExH, merged by a program of mine. -/
import Derived.Test.YtlfbgaknljdanaaGreatDoorExM1
import Derived.Test.YtlfbgaknljdanaaGreatDoorMAn1
import Derived.Deep.DeepCutAuto

/- out of ExD -/
namespace Go.Proofs.YtlfbgaknljdanaaGreatDoor
open Go.RowKit
open Go.Lib (hid)
set_option linter.unusedVariables false
set_option linter.unusedSimpArgs false
set_option maxRecDepth 100000

set_option maxHeartbeats 2000000 in
theorem refList_any (k : Nat) (hk : k < 7) (w : World) : Calls Tryz.prog 81 #[.int .i64 (bitI k)] w fun e w' => e = .returned (.slice (some ⟨w.heap.size, 0, none⟩) (elN k).length (elN k).length) ∧ w' = w.alloc (.cells (elRow k) 9) := by
  rcases (by omega : k = 0 ∨ k = 1 ∨ k = 2 ∨ k = 3 ∨ k = 4 ∨ k = 5 ∨ k = 6) with rfl | rfl | rfl | rfl | rfl | rfl | rfl
  · show Calls Tryz.prog 81 #[.int .i64 1] w _
    go_enter Tryz.func81, Tryz.ntmps81
    go_wp2
    go_ret
    exact ⟨rfl, rfl⟩
  · show Calls Tryz.prog 81 #[.int .i64 2] w _
    go_enter Tryz.func81, Tryz.ntmps81
    go_wp2
    go_ret
    exact ⟨rfl, rfl⟩
  · show Calls Tryz.prog 81 #[.int .i64 4] w _
    go_enter Tryz.func81, Tryz.ntmps81
    go_wp2
    go_ret
    exact ⟨rfl, rfl⟩
  · show Calls Tryz.prog 81 #[.int .i64 8] w _
    go_enter Tryz.func81, Tryz.ntmps81
    go_wp2
    go_ret
    exact ⟨rfl, rfl⟩
  · show Calls Tryz.prog 81 #[.int .i64 16] w _
    go_enter Tryz.func81, Tryz.ntmps81
    go_wp2
    go_ret
    exact ⟨rfl, rfl⟩
  · show Calls Tryz.prog 81 #[.int .i64 32] w _
    go_enter Tryz.func81, Tryz.ntmps81
    go_wp2
    go_ret
    exact ⟨rfl, rfl⟩
  · show Calls Tryz.prog 81 #[.int .i64 64] w _
    go_enter Tryz.func81, Tryz.ntmps81
    go_wp2
    go_ret
    exact ⟨rfl, rfl⟩
def accE : Nat → ByteArray → Int
  | 0, _ => 0
  | k + 1, x => accE k x + b2 (inN k x) (bitI k)
theorem accE_all (x : ByteArray) : accE 7 x = elV x := by
  show 0 + _ + _ + _ + _ + _ + _ + _ = b2 (inN 0 x) 1 + b2 (inN 1 x) 2 + b2 (inN 2 x) 4 + b2 (inN 3 x) 8 + b2 (inN 4 x) 16 + b2 (inN 5 x) 32 + b2 (inN 6 x) 64
  rw [Int.zero_add]
  rfl
theorem accE_bd (x : ByteArray) : ∀ k, k ≤ 7 → 0 ≤ accE k x ∧ accE k x + bitI k ≤ bitI (k + 1)
  | 0, _ => ⟨Int.le_refl 0, by show (0 : Int) + bitI 0 ≤ bitI 1; decide⟩
  | k + 1, hk => by
    have := accE_bd x k (by omega)
    have h1 : bitI (k + 1) = 2 * bitI k := by unfold bitI; rw [Int.pow_succ]; omega
    have h2 : bitI (k + 1 + 1) = 2 * bitI (k + 1) := by unfold bitI; rw [Int.pow_succ _ (k + 1)]; omega
    have h3 : 0 ≤ bitI k := by unfold bitI; exact Int.le_of_lt (Int.pow_pos (by decide))
    show 0 ≤ accE k x + b2 (inN k x) (bitI k) ∧ accE k x + b2 (inN k x) (bitI k) + bitI (k + 1) ≤ bitI (k + 1 + 1)
    unfold b2
    split <;> omega
theorem elN_new : ∀ k : Fin 7, ((List.range (elN k.val).length).all fun j => !memB ((elN k.val).getD j ⟨#[]⟩) ((elN k.val).take j)) = true := by decide +kernel
theorem elN_once {k j : Nat} (hk : k < 7) (hj : j < (elN k).length) : memB (elN k)[j] ((elN k).take j) = false := by
  have := List.all_eq_true.1 (elN_new ⟨k, hk⟩) j (List.mem_range.2 hj)
  rw [List.getD_eq_getElem?_getD, List.getElem?_eq_getElem hj] at this
  simpa using this
def inV (k j : Nat) (x : ByteArray) : Int := accE k x + b2 (memB x ((elN k).take j)) (bitI k)
theorem inV_hit {k j : Nat} (hk : k < 7) (hj : j < (elN k).length) : inV k (j + 1) (elN k)[j] = inV k j (elN k)[j] + bitI k := by
  unfold inV
  rw [memB_next hj, elN_once hk hj, decide_eq_true rfl]
  show accE k _ + bitI k = accE k _ + 0 + bitI k
  omega
theorem inV_miss {k j : Nat} (hj : j < (elN k).length) {x : ByteArray} (hx : (elN k)[j] ≠ x) : inV k (j + 1) x = inV k j x := by
  unfold inV
  rw [memB_next hj, decide_eq_false hx, Bool.or_false]
theorem inV_zero (k : Nat) (x : ByteArray) : inV k 0 x = accE k x := by
  unfold inV
  show accE k x + 0 = _
  omega
theorem inV_end (k : Nat) (x : ByteArray) : inV k (elN k).length x = accE (k + 1) x := by
  unfold inV
  rw [List.take_length]
  rfl
theorem inV_bd (k j : Nat) (hk : k < 7) (x : ByteArray) : 0 ≤ inV k j x ∧ inV k j x ≤ 128 := by
  have h := accE_bd x k (by omega)
  have h1 := bitI_bd ⟨k, hk⟩
  have h2 : bitI (k + 1) = 2 * bitI k := by unfold bitI; rw [Int.pow_succ]; omega
  simp only at h1
  unfold inV b2
  split <;> omega
set_option maxHeartbeats 4000000 in
theorem refOf_any (x : ByteArray) (w : World) : Calls Tryz.prog 64 #[.string x] w fun e w' => e = .returned (.int .i64 (elV x)) ∧ Below w.heap.size w w' := by
  have HLI := hid (fun k hk W => refList_any k hk W)
  go_enter Tryz.func64, Tryz.ntmps64
  go_wp2
  go_loopg [3, 4] 7 (fun kx s3 s4 wr => ∃ k : Nat, s3 = .int .i64 (accE k x) ∧ s4 = .int .i64 (bitI k) ∧ k ≤ 7 ∧ 7 - k ≤ kx ∧ Hid (Below w.heap.size w wr))
  case atStart => exact ⟨0, rfl, rfl, by omega, Nat.le_refl _, Below.refl _ _⟩
  case round =>
    obtain ⟨k, rfl, rfl, hk7, hg, HB⟩ := hrel
    by_cases hk : k < 7
    · have hb := bitI_bd ⟨k, hk⟩
      simp only at hb
      have HZ := hid (inV_zero k x)
      have HE := hid (inV_end k x)
      have HL := hid (HLI.out k hk wr)
      have HB2 := hid (show 2 * bitI k = bitI (k + 1) by unfold bitI; rw [Int.pow_succ]; omega)
      have HHIT := hid (fun j (hj : j < (elN k).length) => inV_hit hk hj)
      have HBD := hid (fun j => inV_bd k j hk x)
      have HROW := hid (fun j (h : j < (elN k).length) => elRow_at k j h)
      obtain ⟨bt, hbt⟩ : ∃ bt, bt = bitI k := ⟨_, rfl⟩
      rw [← hbt] at hb HL HB2 HHIT ⊢
      have HBT := hid hbt
      have hsw := HB.out.size
      clear hbt
      obtain ⟨ln, hlne⟩ : ∃ ln, ln = (elN k).length := ⟨_, rfl⟩
      have HLN := hid hlne
      rw [← hlne] at HL
      have hl100 : ln ≤ 100 := by rw [hlne]; have := elN_len ⟨k, hk⟩; simp only at this; omega
      clear hlne
      rw [← inV_zero k x]
      go_wp2_with fail
      refine HL.out.mono ?_
      rintro e w2 ⟨rfl, hw2⟩
      have HQ := hid (show Blk w2 wr.heap.size 9 (elRow k) by rw [hw2]; exact Blk.new _ _ _)
      have HB3 := hid (show Below w.heap.size w w2 by rw [hw2]; exact HB.out.alloc hsw _)
      clear hw2
      generalize wr.heap.size = q at *
      go_wp2_with fail
      go_loopg [3, 6] ln (fun kx s3 s6 wz => ∃ j : Nat, s3 = .int .i64 (inV k j x) ∧ s6 = .int .i64 j ∧ j ≤ ln ∧ ln - j ≤ kx ∧ Hid (wz = w2))
      case atStart => exact ⟨0, rfl, rfl, Nat.zero_le _, Nat.le_refl _, rfl⟩
      case round =>
        obtain ⟨j, rfl, rfl, hj, hg2, HW⟩ := hrel
        obtain rfl : wr = w2 := HW.out
        have hbd := HBD.out j
        by_cases hlt : j < ln
        · have hlt' : (j : Int) < (ln : Int) := by omega
          have hjl : j < (elN k).length := by rw [← HLN.out]; exact hlt
          have c0 := (HQ.out.cell j).trans (HROW.out j hjl)
          by_cases hx : (elN k)[j] = x
          · have HV := hid (show inV k (j + 1) x = inV k j x + bt by
              have := HHIT.out j hjl
              rw [hx] at this
              exact this)
            rw [hx] at c0
            clear hx
            generalize inV k j x = V0 at *
            go_wp2_with fail
            go_roundg (ln - (j + 1))
            case measure => omega
            case rel => exact ⟨j + 1, by rw [HV.out], by go_num, by omega, Nat.le_refl _, rfl⟩
          · have HV := hid (inV_miss (k := k) hjl hx)
            have hx1 : ((elN k)[j].toList == x.toList) = false := str_ne hx
            have hx2 : ¬ (elN k)[j].toList = x.toList := fun e => hx (str_toList_inj.1 e)
            generalize (elN k)[j] = nm at *
            generalize inV k j x = V0 at *
            clear hx
            go_wp2_with fail
            go_roundg (ln - (j + 1))
            case measure => omega
            case rel => exact ⟨j + 1, by rw [HV.out], by go_num, by omega, Nat.le_refl _, rfl⟩
        · have hlt' : ¬ (j : Int) < (ln : Int) := by omega
          have hjn : j = (elN k).length := by rw [← HLN.out]; omega
          have HV := hid (show inV k j x = accE (k + 1) x by rw [hjn]; exact HE.out)
          clear hjn hlt
          generalize inV k j x = V0 at *
          go_wp2_with fail
          go_roundg (7 - (k + 1))
          case measure => omega
          case rel => exact ⟨k + 1, by rw [HV.out], by rw [← HB2.out], by omega, Nat.le_refl _, HB3.out⟩
    · obtain rfl : k = 7 := by omega
      have HA := hid (accE_all x)
      show _
      rw [show bitI 7 = 128 by decide]
      generalize accE 7 x = V at *
      go_wp2_with fail
      go_ret
      exact ⟨by rw [HA.out]; rfl, HB.out⟩
theorem turn_any (n by_ : Int) (is : Bool) (w : World) (h0 : 0 ≤ n) (h1 : n ≤ 255) (hby : by_ = 1 ∨ by_ = -1 ∨ by_ = 0) : Calls Tryz.prog 65 #[.int .i64 n, .bool is, .int .i64 by_] w fun e w' => e = .returned (.int .i64 (trn n is by_)) ∧ w' = w := by
  cases is
  · have HT := hid (show trn n false by_ = n from rfl)
    generalize trn n false by_ = V at *
    go_enter Tryz.func65, Tryz.ntmps65
    go_wp2_with fail
    go_ret
    exact ⟨by rw [HT.out]; rfl, rfl⟩
  · rcases hby with rfl | rfl | rfl
    · by_cases h2 : n < 255
      · have HT := hid (show trn n true 1 = n + 1 by unfold trn; simp; omega)
        generalize trn n true 1 = V at *
        go_enter Tryz.func65, Tryz.ntmps65
        go_wp2_with fail
        go_ret
        exact ⟨by rw [HT.out]; rfl, rfl⟩
      · have HT := hid (show trn n true 1 = n by unfold trn; simp; omega)
        generalize trn n true 1 = V at *
        go_enter Tryz.func65, Tryz.ntmps65
        go_wp2_with fail
        go_ret
        exact ⟨by rw [HT.out]; rfl, rfl⟩
    · by_cases h2 : 0 < n
      · have HT := hid (show trn n true (-1) = n - 1 by unfold trn; simp; omega)
        generalize trn n true (-1) = V at *
        go_enter Tryz.func65, Tryz.ntmps65
        go_wp2_with fail
        go_ret
        exact ⟨by rw [HT.out]; rfl, rfl⟩
      · have HT := hid (show trn n true (-1) = n by unfold trn; simp; omega)
        generalize trn n true (-1) = V at *
        go_enter Tryz.func65, Tryz.ntmps65
        go_wp2_with fail
        go_ret
        exact ⟨by rw [HT.out]; rfl, rfl⟩
    · have HT := hid (show trn n true 0 = n by unfold trn; simp; omega)
      generalize trn n true 0 = V at *
      go_enter Tryz.func65, Tryz.ntmps65
      go_wp2_with fail
      go_ret
      exact ⟨by rw [HT.out]; rfl, rfl⟩
end Go.Proofs.YtlfbgaknljdanaaGreatDoor

/- out of ExH -/
namespace Go.Proofs.YtlfbgaknljdanaaGreatDoor
open Go.RowKit
open Go.Lib (hid)
set_option linter.unusedVariables false
set_option linter.unusedSimpArgs false
set_option maxRecDepth 100000

theorem em1 : ∀ a b c d e f g : Bool, (v7 a b c d e f g % 2 == 1) = a := by decide +kernel
theorem em2 : ∀ a b c d e f g : Bool, (v7 a b c d e f g / 2 % 2 == 1) = b := by decide +kernel
theorem em4 : ∀ a b c d e f g : Bool, (v7 a b c d e f g / 4 % 2 == 1) = c := by decide +kernel
theorem em8 : ∀ a b c d e f g : Bool, (v7 a b c d e f g / 8 % 2 == 1) = d := by decide +kernel
theorem em16 : ∀ a b c d e f g : Bool, (v7 a b c d e f g / 16 % 2 == 1) = e := by decide +kernel
theorem em32 : ∀ a b c d e f g : Bool, (v7 a b c d e f g / 32 % 2 == 1) = f := by decide +kernel
theorem em64 : ∀ a b c d e f g : Bool, (v7 a b c d e f g / 64 % 2 == 1) = g := by decide +kernel
theorem emt4 : ∀ a b c d e f g : Bool, ((IntKind.i64.wrap ((v7 a b c d e f g).tdiv 4)).tmod 2 == 1) = c := by decide +kernel
/-- The document's taking. -/
def rfBy (en sg vo : Bool) : Int := if (vo || (sg && !en)) = true then 0 else if en = true then -1 else 1
theorem trn_zero {n : Int} (h0 : 0 ≤ n) (h1 : n ≤ 255) (is : Bool) : trn n is 0 = n := by
  unfold trn
  split <;> omega
theorem trn_false (n by_ : Int) : trn n false by_ = n := rfl
def rfN (h p b : Int) (fa fb fc fd fe ff fg en sg : Bool) (by_ : Int) : Ne × Bool × Bool :=
  (⟨trn h fc by_, if (h == 0) = true then trn p fd by_ else p, if (h == 0) = true then trn b fe by_ else b⟩, if en = true then (h == 0) && fa && !fb else (h == 0) && (fa || ff), if en = true then false else (h == 0) && fg)
theorem neTake_rf (h p b : Int) (hh : 0 ≤ h ∧ h ≤ 255) (hp : 0 ≤ p ∧ p ≤ 255) (hb : 0 ≤ b ∧ b ≤ 255) (x : ByteArray) (en sg : Bool) :
    neTake ⟨h, p, b⟩ (if en = true then 3 else 2) x sg = rfN h p b (inN 0 x) (inN 1 x) (inN 2 x) (inN 3 x) (inN 4 x) (inN 5 x) (inN 6 x) en sg (if (inN 1 x || (sg && !en)) = true then 0 else if en = true then -1 else 1) := by
  have th := fun i => trn_zero hh.1 hh.2 i
  have tp := fun i => trn_zero hp.1 hp.2 i
  have tb := fun i => trn_zero hb.1 hb.2 i
  have he : (h == 0) = decide (h = 0) := rfl
  cases en
  · show neStart ⟨h, p, b⟩ x sg = _
    unfold neStart rfN Ne.add
    simp only [he]
    cases sg <;> cases inN 1 x <;> cases hd : decide (h = 0) <;> simp [th, tp, tb, trn_false]
  · show ((neEnd ⟨h, p, b⟩ x).1, (neEnd ⟨h, p, b⟩ x).2, false) = _
    unfold neEnd rfN Ne.add
    simp only [he]
    cases sg <;> cases inN 1 x <;> cases hd : decide (h = 0) <;> simp [th, tp, tb, trn_false]
set_option maxHeartbeats 4000000 in
theorem refTake_any (n : Ne) (en sg : Bool) (x : ByteArray) (w : World) (hn : n.ok) :
    Calls Tryz.prog 42 #[.agg n.cells, .bool en, .bool sg, .string x] w fun e w' => e = .returned (.tuple #[.agg (neTake n (if en = true then 3 else 2) x sg).1.cells, .bool (neTake n (if en = true then 3 else 2) x sg).2.1, .bool (neTake n (if en = true then 3 else 2) x sg).2.2]) ∧ Below w.heap.size w w' := by
  obtain ⟨h, p, b⟩ := n
  obtain ⟨hh, hp, hb⟩ := hn
  simp only at hh hp hb
  have HOF := hid (fun W => refOf_any x W)
  have HTU := hid (fun n by_ is W h0 h1 h2 => turn_any n by_ is W h0 h1 h2)
  have hev := em1 (inN 0 x) (inN 1 x) (inN 2 x) (inN 3 x) (inN 4 x) (inN 5 x) (inN 6 x)
  have hev2 := em2 (inN 0 x) (inN 1 x) (inN 2 x) (inN 3 x) (inN 4 x) (inN 5 x) (inN 6 x)
  have hev4 := em4 (inN 0 x) (inN 1 x) (inN 2 x) (inN 3 x) (inN 4 x) (inN 5 x) (inN 6 x)
  have hev8 := em8 (inN 0 x) (inN 1 x) (inN 2 x) (inN 3 x) (inN 4 x) (inN 5 x) (inN 6 x)
  have hev16 := em16 (inN 0 x) (inN 1 x) (inN 2 x) (inN 3 x) (inN 4 x) (inN 5 x) (inN 6 x)
  have hev32 := em32 (inN 0 x) (inN 1 x) (inN 2 x) (inN 3 x) (inN 4 x) (inN 5 x) (inN 6 x)
  have hev64 := em64 (inN 0 x) (inN 1 x) (inN 2 x) (inN 3 x) (inN 4 x) (inN 5 x) (inN 6 x)
  have het4 := emt4 (inN 0 x) (inN 1 x) (inN 2 x) (inN 3 x) (inN 4 x) (inN 5 x) (inN 6 x)
  have hEV : elV x = v7 (inN 0 x) (inN 1 x) (inN 2 x) (inN 3 x) (inN 4 x) (inN 5 x) (inN 6 x) := rfl
  rw [← hEV] at hev hev2 hev4 hev8 hev16 hev32 hev64 het4
  have HET := hid het4
  clear het4
  have hbd : 0 ≤ elV x ∧ elV x ≤ 127 := valOf_bd _
  obtain ⟨hbd0, hbd1⟩ := hbd
  obtain ⟨R, hR⟩ : ∃ R, R = neTake ⟨h, p, b⟩ (if en = true then 3 else 2) x sg := ⟨_, rfl⟩
  have HR := hid (hR.trans (neTake_rf h p b hh hp hb x en sg))
  rw [← hR]
  clear hR hEV
  simp only [Ne.cells]
  generalize elV x = V at *
  generalize inN 0 x = fa at *
  have q0 := (Blk.new w 76 #[.int .i64 h, .int .i64 p, .int .i64 b]).alloc (.cells #[.int .i64 0, .int .i64 0, .int .i64 0] 76)
  have q1 := Blk.new (w.alloc (.cells #[.int .i64 h, .int .i64 p, .int .i64 b] 76)) 76 #[.int .i64 0, .int .i64 0, .int .i64 0]
  rw [World.size_alloc] at q1
  have hb1 := ((Below.refl w.heap.size w).alloc (Nat.le_refl _) (.cells #[.int .i64 h, .int .i64 p, .int .i64 b] 76)).alloc (by simp) (.cells #[.int .i64 0, .int .i64 0, .int .i64 0] 76)
  have HQ0 := hid q0
  have HQ1 := hid q1
  have HB1 := hid hb1
  clear q0 q1 hb1
  go_enter Tryz.func42, Tryz.ntmps42
  go_wp2_with fail
  generalize (w.alloc (.cells #[.int .i64 h, .int .i64 p, .int .i64 b] 76)).alloc (.cells #[.int .i64 0, .int .i64 0, .int .i64 0] 76) = w1 at *
  refine (HOF.out w1).mono ?_
  rintro e w2 ⟨rfl, hb2⟩
  have q0 := HQ0.out.below hb2 HQ0.out.lt
  have q1 := HQ1.out.below hb2 HQ1.out.lt
  have y0 := q0.cell 0
  have y1 := q0.cell 1
  have y2 := q0.cell 2
  simp only [List.getElem?_toArray, List.getElem?_cons_zero, List.getElem?_cons_succ] at y0 y1 y2
  have HQ := hid (And.intro q0 q1)
  have HB2 := hid (HB1.out.trans (hb2.mono HB1.out.size))
  clear HQ0 HQ1 HB1 hb2 q0 q1
  generalize inN 1 x = fb at *
  generalize inN 2 x = fc at *
  generalize inN 3 x = fd at *
  generalize inN 4 x = fe at *
  generalize inN 5 x = ff at *
  generalize inN 6 x = fg at *
  go_upto_region 4 with fail
  generalize hse : (h == 0) = se at *
  have HSE := hid hse
  clear hse
  go_cut [15] (fun s15 wx => s15 = .bool (se && (fa || ff)) ∧ wx = w2)
  case first =>
    cases se <;> cases fa
    all_goals
      go_wp2_with fail
      go_meet
      case rel => exact ⟨rfl, rfl⟩
  case rest =>
    obtain ⟨rfl, hw⟩ := hcut
    obtain rfl : w2 = wc := hw.symm
    generalize hF0 : (se && (fa || ff)) = F0 at *
    have HF0 := hid hF0
    clear hF0
    go_upto_region 5 with fail
    go_cut [16] (fun s16 wx => s16 = .bool (se && fg) ∧ wx = w2)
    case first =>
      cases se
      all_goals
        go_wp2_with fail
        go_meet
        case rel => exact ⟨rfl, rfl⟩
    case rest =>
      obtain ⟨rfl, hw⟩ := hcut
      obtain rfl : w2 = wc := hw.symm
      generalize hC0 : (se && fg) = C0 at *
      have HC0 := hid hC0
      clear hC0
      go_upto_region 7 with fail
      go_upto_if 48 with fail
      go_cut [15, 16, 17] (fun s15 s16 s17 wx => s15 = .bool (if en = true then se && fa && !fb else F0) ∧ s16 = .bool (if en = true then false else C0) ∧ s17 = .int .i64 (if en = true then -1 else 1) ∧ wx = w2)
      case first =>
        cases en
        · go_wp2_with fail
          go_meet
          case rel => exact ⟨rfl, rfl, rfl, rfl⟩
        · cases se <;> cases fa
          all_goals
            go_wp2_with fail
            go_meet
            case rel => exact ⟨rfl, rfl, rfl, rfl⟩
      case rest =>
        obtain ⟨rfl, rfl, rfl, hw⟩ := hcut
        obtain rfl : w2 = wc := hw.symm
        generalize hF1 : (if en = true then se && fa && !fb else F0) = F1 at *
        generalize hC1 : (if en = true then false else C0) = C1 at *
        generalize hBY : (if en = true then (-1 : Int) else 1) = BY at *
        have HBY := hid hBY
        have HF1 := hid hF1
        have HC1 := hid hC1
        clear hBY hF1 hC1
        go_upto_region 10 with fail
        go_cut [64] (fun s64 wx => s64 = .bool (fb || (sg && !en)) ∧ wx = w2)
        case first =>
          cases fb <;> cases sg
          all_goals
            go_wp2_with fail
            go_meet
            case rel => exact ⟨rfl, rfl⟩
        case rest =>
          obtain ⟨rfl, hw⟩ := hcut
          obtain rfl : w2 = wc := hw.symm
          generalize hno : (fb || (sg && !en)) = no at *
          have HNO := hid hno
          clear hno
          go_upto_if 64 with fail
          go_cut [17] (fun s17 wx => s17 = .int .i64 (if no = true then 0 else BY) ∧ wx = w2)
          case first =>
            cases no
            all_goals
              go_wp2_with fail
              go_meet
              case rel => exact ⟨rfl, rfl⟩
          case rest =>
            obtain ⟨rfl, hw⟩ := hcut
            obtain rfl : w2 = wc := hw.symm
            generalize hby : (if no = true then 0 else BY) = by_ at *
            have HBE := hid hby
            have hb3 : by_ = 1 ∨ by_ = -1 ∨ by_ = 0 := by
              rw [← hby]
              have := HBY.out
              cases no <;> cases en <;> simp at this ⊢ <;> omega
            have HT0 := hid (fun W => HTU.out h by_ fc W hh.1 hh.2 hb3)
            have HT1 := hid (fun W => HTU.out p by_ fd W hp.1 hp.2 hb3)
            have HT2 := hid (fun W => HTU.out b by_ fe W hb.1 hb.2 hb3)
            clear hby hb3
            go_upto_region 12 with fail
            have hlt : w.heap.size < w2.heap.size := HQ.out.1.lt
            have HS9 := hid (fun o => show (w2.alloc o).drew.cell? ⟨w.heap.size, 0, none⟩ = some (.int .i64 h) ∧ (w2.alloc o).drew.cell? ⟨w.heap.size, 1, none⟩ = some (.int .i64 p) ∧ (w2.alloc o).drew.cell? ⟨w.heap.size, 2, none⟩ = some (.int .i64 b) ∧ w.heap.size < (w2.alloc o).drew.heap.size from ⟨cell_alloc_of o hlt y0, cell_alloc_of o hlt y1, cell_alloc_of o hlt y2, by show _ < (w2.alloc o).heap.size; simp; omega⟩)
            go_cut [18] (fun s18 wx => s18 = .pointer (some ⟨w2.heap.size, 0, none⟩) ∧ wx = (w2.alloc (.cells #[.int .i64 (trn h fc by_), .int .i64 p, .int .i64 b] 76)).drew)
            case first =>
              refine wp_region_held_drew (S := fun w' : World => w'.cell? ⟨w.heap.size, 0, none⟩ = some (.int .i64 h) ∧ w'.cell? ⟨w.heap.size, 1, none⟩ = some (.int .i64 p) ∧ w'.cell? ⟨w.heap.size, 2, none⟩ = some (.int .i64 b) ∧ w.heap.size < w'.heap.size) (by kernel_rfl) ⟨y0, y1, y2, hlt⟩ (fun hHeld => ?_)
              clear y0 y1 y2
              refine wpAnyH_take (i := 0) (v := ?hv1) rfl (by kernel_rfl) (by kernel_rfl) (by kernel_rfl) (fun _ _ _ h => h) (Or.inl ⟨by rfl, ?hy1⟩) (by assumption) ?hr1
              case hy1 => (intro w hSw; (try dsimp only at hSw); go_simp; try with_reducible rfl)
              (try simp only [Act.put, List.getElem_toArray, List.getElem_cons_zero, List.setIfInBounds_toArray, List.set_cons_zero, List.set_cons_succ])
              refine wpAnyH_take (i := 1) (v := ?hv2) rfl (by kernel_rfl) (by kernel_rfl) (by kernel_rfl) (fun _ _ _ h => h) (Or.inl ⟨by rfl, ?hy2⟩) (by assumption) ?hr2
              case hy2 => (intro w hSw; (try dsimp only at hSw); go_simp; try with_reducible rfl)
              (try simp only [Act.put, List.getElem_toArray, List.getElem_cons_zero, List.getElem_cons_succ, List.setIfInBounds_toArray, List.set_cons_zero, List.set_cons_succ])
              refine wpAnyH_take (i := 2) (v := ?hv3) rfl (by kernel_rfl) (by kernel_rfl) (by kernel_rfl) (fun _ _ _ h => h) (Or.inl ⟨by rfl, ?hy3⟩) (by assumption) ?hr3
              case hy3 => (intro w hSw; (try dsimp only at hSw); go_simp; try with_reducible rfl)
              (try simp only [Act.put, List.getElem_toArray, List.getElem_cons_zero, List.getElem_cons_succ, List.setIfInBounds_toArray, List.set_cons_zero, List.set_cons_succ])
              refine wpAnyH_take (i := 3) (v := ?hv4) rfl (by kernel_rfl) (by kernel_rfl) (by kernel_rfl) (fun _ _ _ h => h) (Or.inl ⟨by rfl, ?hy4⟩) (by assumption) ?hr4
              case hy4 => (intro w hSw; (try dsimp only at hSw); go_simp; try with_reducible rfl)
              (try simp only [Act.put, List.getElem_toArray, List.getElem_cons_zero, List.getElem_cons_succ, List.setIfInBounds_toArray, List.set_cons_zero, List.set_cons_succ])
              refine wpAnyH_take (i := 4) (v := ?hv5) rfl (by kernel_rfl) (by kernel_rfl) (by kernel_rfl) (fun _ _ _ h => h) (Or.inl ⟨by rfl, ?hy5⟩) (by assumption) ?hr5
              case hy5 => (intro w hSw; (try dsimp only at hSw); go_simp; try with_reducible rfl)
              (try simp only [Act.put, List.getElem_toArray, List.getElem_cons_zero, List.getElem_cons_succ, List.setIfInBounds_toArray, List.set_cons_zero, List.set_cons_succ])
              refine wpAnyH_take (i := 5) (v := ?hv6) rfl (by kernel_rfl) (by kernel_rfl) (by kernel_rfl) (fun _ _ _ h => h) (Or.inl ⟨by rfl, ?hy6⟩) (by assumption) ?hr6
              case hy6 => (intro w hSw; (try dsimp only at hSw); go_simp; try with_reducible rfl)
              (try simp only [Act.put, List.getElem_toArray, List.getElem_cons_zero, List.getElem_cons_succ, List.setIfInBounds_toArray, List.set_cons_zero, List.set_cons_succ])
              refine wpAnyH_take (i := 6) (v := ?hv7) rfl (by kernel_rfl) (by kernel_rfl) (by kernel_rfl) (fun _ _ _ h => h) (Or.inl ⟨by rfl, ?hy7⟩) (by assumption) ?hr7
              case hy7 => (intro w hSw; (try dsimp only at hSw); go_simp; try with_reducible rfl)
              (try simp only [Act.put, List.getElem_toArray, List.getElem_cons_zero, List.getElem_cons_succ, List.setIfInBounds_toArray, List.set_cons_zero, List.set_cons_succ])
              refine wpAnyH_take (i := 8) (v := ?hv8) rfl (by kernel_rfl) (by kernel_rfl) (by kernel_rfl) (fun _ _ _ h => h) (Or.inl ⟨by rfl, ?hy8⟩) (by assumption) ?hr8
              case hy8 => (intro w hSw; (try dsimp only at hSw); go_simp; try with_reducible rfl)
              (try simp only [Act.put, List.getElem_toArray, List.getElem_cons_zero, List.getElem_cons_succ, List.setIfInBounds_toArray, List.set_cons_zero, List.set_cons_succ])
              refine wpAnyH_take (i := 9) (v := ?hv9) rfl (by kernel_rfl) (by kernel_rfl) (by kernel_rfl) (fun _ _ _ h => h) (Or.inl ⟨by rfl, ?hy9⟩) (by assumption) ?hr9
              case hy9 => (intro w hSw; (try dsimp only at hSw); go_simp; try with_reducible rfl)
              (try simp only [Act.put, List.getElem_toArray, List.getElem_cons_zero, List.getElem_cons_succ, List.setIfInBounds_toArray, List.set_cons_zero, List.set_cons_succ])
              refine wpAnyH_take (i := 10) (v := ?hv10) rfl (by kernel_rfl) (by kernel_rfl) (by kernel_rfl) (fun _ _ _ h => h) (Or.inl ⟨by rfl, ?hy10⟩) (by assumption) ?hr10
              case hy10 => (intro w hSw; (try dsimp only at hSw); go_simp; try with_reducible rfl)
              (try simp only [Act.put, List.getElem_toArray, List.getElem_cons_zero, List.getElem_cons_succ, List.setIfInBounds_toArray, List.set_cons_zero, List.set_cons_succ])
              refine wpAnyH_take (i := 11) (v := ?hv11) rfl (by kernel_rfl) (by kernel_rfl) (by kernel_rfl) (fun _ _ _ h => h) (Or.inl ⟨by rfl, ?hy11⟩) (by assumption) ?hr11
              case hy11 => (intro w hSw; (try dsimp only at hSw); go_simp; try with_reducible rfl)
              (try simp only [Act.put, List.getElem_toArray, List.getElem_cons_zero, List.getElem_cons_succ, List.setIfInBounds_toArray, List.set_cons_zero, List.set_cons_succ])
              refine wpAnyH_ready (rs := [7, 13]) (by kernel_rfl) (by simp) ?_
              refine AllReadyH.cons rfl (fun K hK => ?_) (AllReadyH.cons rfl (fun K hK => ?_) AllReadyH.nil)
              · go_simp
                go_at_call 65
                rw [HET.out]
                refine (HT0.out _).mono ?_
                rintro e w' ⟨rfl, rfl⟩
                go_wp2_with fail
                refine hK.out _ _ hHeld (fun hHeld2 => ?_)
                clear hK K
                refine wpAnyH_take (i := 12) (v := ?hv12) rfl (by kernel_rfl) (by kernel_rfl) (by kernel_rfl) (fun _ _ _ h => h) (Or.inl ⟨by rfl, ?hy12⟩) (by assumption) ?hr12
                case hy12 => (intro w hSw; (try dsimp only at hSw); go_simp; try with_reducible rfl)
                (try simp only [Act.put, List.getElem_toArray, List.getElem_cons_zero, List.getElem_cons_succ, List.setIfInBounds_toArray, List.set_cons_zero, List.set_cons_succ])
                refine wpAnyH_ready (rs := [13]) (by kernel_rfl) (by simp) ?_
                refine AllReadyH.cons rfl (fun K hK => ?_) AllReadyH.nil
                rw [if_pos (by kernel_rfl)]
                go_simp
                refine hK.out _ _ ⟨cell_alloc_of _ hHeld2.2.2.2 hHeld2.1, cell_alloc_of _ hHeld2.2.2.2 hHeld2.2.1, cell_alloc_of _ hHeld2.2.2.2 hHeld2.2.2.1, by simp; exact Nat.lt_succ_of_lt hHeld2.2.2.2⟩ (fun hHeld3 => ?_)
                clear hK K
                refine wpAnyH_ready (rs := [14]) (by kernel_rfl) (by simp) ?_
                refine AllReadyH.cons rfl (fun K hK => ?_) AllReadyH.nil
                rw [if_pos (by kernel_rfl)]
                go_simp
                refine hK.out _ _ (HS9.out _) (fun hHeld4 => ?_)
                clear hK K
                refine wpAnyH_done (by kernel_rfl) ?_ _
                go_wp2_with fail
                go_meet
                case rel => exact ⟨rfl, rfl⟩
              · rw [if_pos (by kernel_rfl)]
                go_simp
                refine hK.out _ _ ⟨cell_alloc_of _ hHeld.2.2.2 hHeld.1, cell_alloc_of _ hHeld.2.2.2 hHeld.2.1, cell_alloc_of _ hHeld.2.2.2 hHeld.2.2.1, by simp; exact Nat.lt_succ_of_lt hHeld.2.2.2⟩ (fun hHeld2 => ?_)
                clear hK K
                refine wpAnyH_ready (rs := [7]) (by kernel_rfl) (by simp) ?_
                refine AllReadyH.cons rfl (fun K hK => ?_) AllReadyH.nil
                go_simp
                go_at_call 65
                rw [HET.out]
                refine (HT0.out _).mono ?_
                rintro e w' ⟨rfl, rfl⟩
                go_wp2_with fail
                refine hK.out _ _ hHeld2 (fun hHeld3 => ?_)
                clear hK K
                refine wpAnyH_take (i := 12) (v := ?hv13) rfl (by kernel_rfl) (by kernel_rfl) (by kernel_rfl) (fun _ _ _ h => h) (Or.inl ⟨by rfl, ?hy13⟩) (by assumption) ?hr13
                case hy13 => (intro w hSw; (try dsimp only at hSw); go_simp; try with_reducible rfl)
                (try simp only [Act.put, List.getElem_toArray, List.getElem_cons_zero, List.getElem_cons_succ, List.setIfInBounds_toArray, List.set_cons_zero, List.set_cons_succ])
                refine wpAnyH_ready (rs := [14]) (by kernel_rfl) (by simp) ?_
                refine AllReadyH.cons rfl (fun K hK => ?_) AllReadyH.nil
                rw [if_pos (by kernel_rfl)]
                go_simp
                refine hK.out _ _ (HS9.out _) (fun hHeld4 => ?_)
                clear hK K
                refine wpAnyH_done (by kernel_rfl) ?_ _
                go_wp2_with fail
                go_meet
                case rel => exact ⟨rfl, rfl⟩
            case rest =>
              obtain ⟨rfl, hw⟩ := hcut
              obtain ⟨y0, y1, y2, hlt9⟩ := HS9.out (.cells #[.int .i64 (trn h fc by_), .int .i64 p, .int .i64 b] 76)
              have hx := (Blk.new w2 76 #[.int .i64 (trn h fc by_), .int .i64 p, .int .i64 b]).drew
              have hr := (HQ.out.2.alloc (.cells #[.int .i64 (trn h fc by_), .int .i64 p, .int .i64 b] 76)).drew
              have hb9 := (HB2.out.alloc HB2.out.size (.cells #[.int .i64 (trn h fc by_), .int .i64 p, .int .i64 b] 76)).drew
              have hne := Nat.ne_of_gt HQ.out.2.lt
              have hs2 := HB2.out.size
              rw [← hw] at y0 y1 y2 hx hr hb9
              clear hw hlt9 hlt HS9
              have hn0 : ¬ w.heap.size = w2.heap.size := Nat.ne_of_lt HQ.out.1.lt
              generalize w2.heap.size = Bx at *
              have x0 := hx.cell 0
              have x1 := hx.cell 1
              have x2 := hx.cell 2
              have xf := hx.frozen
              have rf := hr.frozen
              simp only [List.getElem?_toArray, List.getElem?_cons_zero, List.getElem?_cons_succ] at x0 x1 x2
              have r0 := hr.cell 0
              have r1 := hr.cell 1
              have r2 := hr.cell 2
              simp only [List.getElem?_toArray, List.getElem?_cons_zero, List.getElem?_cons_succ] at r0 r1 r2
              have HHX := hid hx
              have HHR := hid hr
              have HB9 := hid hb9
              have hB0 : w.heap.size ≤ w.heap.size + 1 := Nat.le_succ _
              have hBx : w.heap.size ≤ Bx := hs2
              have hn1 : ¬ w.heap.size = Bx := hn0
              have hn2 : ¬ w.heap.size = w.heap.size + 1 := by omega
              have HBO := hid (And.intro hB0 hBx)
              clear hx hr hb9 hs2 hB0 hBx
              generalize w.heap.size + 1 = Br at *
              have hn3 : ¬ Bx = Br := hne
              have hn4 : ¬ Br = Bx := fun e => hne e.symm
              have hn5 : ¬ Bx = w.heap.size := fun e => hn1 e.symm
              clear hne
              cases se
              · have q9 := HHR.out
                have HFB := hid (((q9.set_ 0 (.int .i64 (trn h fc by_))).set_ 1 (.int .i64 p)).set_ 2 (.int .i64 b))
                have HFW := hid (((HB9.out.setCell (p := ⟨Br, 0, none⟩) HBO.out.1 (.int .i64 (trn h fc by_))).setCell (p := ⟨Br, 1, none⟩) HBO.out.1 (.int .i64 p)).setCell (p := ⟨Br, 2, none⟩) HBO.out.1 (.int .i64 b))
                clear q9
                go_wp2_with fail
                refine bodyPost_ret (results_row_tmp2 rfl _ _ Br _ _ _ _ rfl HFB.out Tryz.underlying76 rfl (by kernel_rfl)) rfl ⟨?_, HFW.out⟩
                rw [HR.out]
                have hz := HSE.out
                have h1 := HF1.out
                have h2 := HC1.out
                have h3 := HBE.out
                have h4 := HNO.out
                have h5 := HBY.out
                have h6 := HF0.out
                have h7 := HC0.out
                subst h1 h2 h3 h4 h5 h6 h7
                unfold rfN
                rw [hz]
                rfl
              · go_wp2_with fail
                refine (HT1.out _).mono ?_
                rintro e w' ⟨rfl, hw⟩
                obtain rfl := hw
                go_wp2_with fail
                refine (HT2.out _).mono ?_
                rintro e w' ⟨rfl, hw⟩
                obtain rfl := hw
                have q9 := (HHR.out.far (p := ⟨Bx, 1, none⟩) hn4 (.int .i64 (trn p fd by_))).far (p := ⟨Bx, 2, none⟩) hn4 (.int .i64 (trn b fe by_))
                have HFB := hid (((q9.set_ 0 (.int .i64 (trn h fc by_))).set_ 1 (.int .i64 (trn p fd by_))).set_ 2 (.int .i64 (trn b fe by_)))
                have HFW := hid (((((HB9.out.setCell (p := ⟨Bx, 1, none⟩) HBO.out.2 (.int .i64 (trn p fd by_))).setCell (p := ⟨Bx, 2, none⟩) HBO.out.2 (.int .i64 (trn b fe by_))).setCell (p := ⟨Br, 0, none⟩) HBO.out.1 (.int .i64 (trn h fc by_))).setCell (p := ⟨Br, 1, none⟩) HBO.out.1 (.int .i64 (trn p fd by_))).setCell (p := ⟨Br, 2, none⟩) HBO.out.1 (.int .i64 (trn b fe by_)))
                clear q9
                go_wp2_with fail
                refine bodyPost_ret (results_row_tmp2 rfl _ _ Br _ _ _ _ rfl HFB.out Tryz.underlying76 rfl (by kernel_rfl)) rfl ⟨?_, HFW.out⟩
                rw [HR.out]
                have hz := HSE.out
                have h1 := HF1.out
                have h2 := HC1.out
                have h3 := HBE.out
                have h4 := HNO.out
                have h5 := HBY.out
                have h6 := HF0.out
                have h7 := HC0.out
                subst h1 h2 h3 h4 h5 h6 h7
                unfold rfN
                rw [hz]
                rfl
end Go.Proofs.YtlfbgaknljdanaaGreatDoor
