/- Chapter 01: a scalar's bytes: the document's; read again: the plain law; the walk. -/
import Derived.Test.YtbkjanlkklmleaaDoorByt
import Derived.Test.YtbkjanlkklmleaaDoorPut
import Derived.Test.YtbkjanlkklmleaaDoorPcs
import Derived.Test.YtbkjanlkklmleaaDoorRead
namespace Go.Proofs.YtbkjanlkklmleaaDoor
open Go.RowKit
open Go.Lib (hid)
set_option linter.unusedVariables false
set_option maxRecDepth 100000

def rightR (r : Int) : Bool := decide (0 ≤ r) && decide (r ≤ 1114111) && (decide (r < 55296) || decide (57343 < r))
theorem refright_any (r : Int) (w : World) : Calls Tryd.prog 14 #[.int .i32 r] w fun e w' => e = .returned (.bool (rightR r)) ∧ w' = w := by
  by_cases h1 : 0 ≤ r
  · by_cases h2 : r ≤ 1114111
    · by_cases h3 : r < 55296
      · have HB := hid (show rightR r = true by simp [rightR]; omega)
        go_enter Tryd.func14, Tryd.ntmps14
        go_wp2
        go_ret
        exact ⟨ret_bool HB.out.symm, rfl⟩
      · by_cases h4 : 57343 < r
        · have HB := hid (show rightR r = true by simp [rightR]; omega)
          go_enter Tryd.func14, Tryd.ntmps14
          go_wp2
          go_ret
          exact ⟨ret_bool HB.out.symm, rfl⟩
        · have HB := hid (show rightR r = false by simp [rightR]; omega)
          go_enter Tryd.func14, Tryd.ntmps14
          go_wp2
          go_ret
          exact ⟨ret_bool HB.out.symm, rfl⟩
    · have HB := hid (show rightR r = false by simp [rightR]; omega)
      go_enter Tryd.func14, Tryd.ntmps14
      go_wp2
      go_ret
      exact ⟨ret_bool HB.out.symm, rfl⟩
  · have HB := hid (show rightR r = false by simp [rightR]; omega)
    go_enter Tryd.func14, Tryd.ntmps14
    go_wp2
    go_ret
    exact ⟨ret_bool HB.out.symm, rfl⟩

def putI0 (r : Int) : List Int :=
  if r < 128 then [r] else if r < 2048 then [192 + r / 64, 128 + r % 64] else if r < 65536 then [224 + r / 4096, 128 + r / 64 % 64, 128 + r % 64]
  else [240 + r / 262144, 128 + r / 4096 % 64, 128 + r / 64 % 64, 128 + r % 64]
/-- The document's bytes of a scalar. -/
def putI (r : Int) : List Int := putI0 (if rightR r then r else 65533)
def scB (r : Int) : ByteArray := ofInts (putI r)
theorem putI0_mem {r : Int} (h0 : 0 ≤ r) (h1 : r ≤ 1114111) : ∀ y ∈ putI0 r, (0 ≤ y ∧ y ≤ 255) ∧ (y < 128 → r = y) := by
  unfold putI0
  split
  · intro y hy
    rw [List.mem_singleton.1 hy]
    exact ⟨by omega, fun _ => rfl⟩
  · split
    · intro y hy
      simp only [List.mem_cons, List.not_mem_nil, or_false] at hy
      rcases hy with rfl | rfl <;> exact ⟨by omega, fun h => by omega⟩
    · split
      · intro y hy
        simp only [List.mem_cons, List.not_mem_nil, or_false] at hy
        rcases hy with rfl | rfl | rfl <;> exact ⟨by omega, fun h => by omega⟩
      · intro y hy
        simp only [List.mem_cons, List.not_mem_nil, or_false] at hy
        rcases hy with rfl | rfl | rfl | rfl <;> exact ⟨by omega, fun h => by omega⟩
theorem rightR_bd {r : Int} (h : rightR r = true) : 0 ≤ r ∧ r ≤ 1114111 ∧ (r < 55296 ∨ 57343 < r) := by
  simp [rightR] at h
  omega
theorem putI_mem (r : Int) : ∀ y ∈ putI r, (0 ≤ y ∧ y ≤ 255) ∧ (y < 128 → r = y) := by
  unfold putI
  intro y hy
  cases hr : rightR r
  · rw [hr] at hy
    have := putI0_mem (r := 65533) (by decide) (by decide) y hy
    exact ⟨this.1, fun h => by have := this.2 h; omega⟩
  · rw [hr] at hy
    have hb := rightR_bd hr
    exact putI0_mem hb.1 hb.2.1 y hy
theorem putI_len (r : Int) : (putI r).length ≤ 4 ∧ 1 ≤ (putI r).length := by
  unfold putI putI0
  generalize (if rightR r = true then r else 65533) = q
  split
  · simp
  · split
    · simp
    · split <;> simp
theorem scB_size (r : Int) : (scB r).size ≤ 4 ∧ 1 ≤ (scB r).size := by
  unfold scB
  rw [ofInts_size]
  exact putI_len r
theorem intsOf_scB (r : Int) : intsOf (scB r) = putI r := by
  unfold scB
  have hz := fun y hy => (putI_mem r y hy).1
  apply List.ext_getElem
  · rw [intsOf_len, ofInts_size]
  · intro i h1 h2
    have e1 := intsOf_get (ofInts (putI r)) i
    rw [List.getD_eq_getElem?_getD, List.getElem?_eq_getElem h1] at e1
    have e2 := ofInts_byt (putI r) hz i h2
    rw [List.getD_eq_getElem?_getD, List.getElem?_eq_getElem h2] at e2
    exact e1.trans e2
theorem putF_putI (r : Int) : putF r = putI r := by
  have hrr : rightB r = rightR r := rfl
  unfold putF putI
  rw [hrr]
  have hq : 0 ≤ (if rightR r = true then r else 65533) := by
    split
    · rename_i h; exact (rightR_bd h).1
    · decide
  generalize (if rightR r = true then r else 65533) = q at *
  unfold putG putI0
  have e1 : q / 64 / 64 = q / 4096 := by omega
  have e2 : q / 64 / 64 / 64 = q / 262144 := by omega
  rw [e2, e1]
theorem readF_put {r : Int} (h : rightR r = true) (rest : List Int) : readF (putI r ++ rest) = (r, (putI r).length, true) := by
  have hb := rightR_bd h
  have hp : putI r = putI0 r := by unfold putI; rw [h]; rfl
  rw [hp]
  unfold putI0
  by_cases h1 : r < 128
  · rw [if_pos h1]
    have hn : needN r = 1 := by unfold needN; rw [if_pos h1]
    have ht : thereGo rest 0 (needLo r) (needHi r) = 0 := by cases rest <;> rfl
    show readF (r :: rest) = _
    unfold readF
    simp only [hn]
    rw [if_neg (by decide), show (1 : Int).toNat - 1 = 0 from rfl, ht, if_neg (by decide)]
    rfl
  · rw [if_neg h1]
    by_cases h2 : r < 2048
    · rw [if_pos h2]
      have hn : needN (192 + r / 64) = 2 := by unfold needN; rw [if_neg (by omega), if_pos (by omega)]
      have hl : needLo (192 + r / 64) = 128 := by unfold needLo; rw [if_neg (by omega), if_neg (by omega)]
      have hh : needHi (192 + r / 64) = 191 := by unfold needHi; rw [if_neg (by omega), if_neg (by omega)]
      have hz : thereGo rest 0 128 191 = 0 := by cases rest <;> rfl
      have ht : thereGo ((128 + r % 64) :: rest) 1 128 191 = 1 := by
        unfold thereGo
        rw [if_pos (by omega), hz]
      show readF ((192 + r / 64) :: (128 + r % 64) :: rest) = _
      unfold readF
      simp only [hn, hl, hh]
      rw [if_neg (by decide), show (2 : Int).toNat - 1 = 1 from rfl, ht, if_neg (by decide)]
      show (valueF [192 + r / 64, 128 + r % 64], 2, true) = (r, 2, true)
      congr 1
      show (192 + r / 64) % 32 * 64 + (128 + r % 64) % 64 = r
      omega
    · rw [if_neg h2]
      by_cases h3 : r < 65536
      · rw [if_pos h3]
        have hn : needN (224 + r / 4096) = 3 := by unfold needN; rw [if_neg (by omega), if_neg (by omega), if_pos (by omega)]
        have hz : thereGo rest 0 128 191 = 0 := by cases rest <;> rfl
        have ht : thereGo ((128 + r / 64 % 64) :: (128 + r % 64) :: rest) 2 (needLo (224 + r / 4096)) (needHi (224 + r / 4096)) = 2 := by
          unfold thereGo
          rw [if_pos (by
            unfold needLo needHi
            constructor
            · split
              · omega
              · rw [if_neg (by omega)]; omega
            · split
              · omega
              · rw [if_neg (by omega)]; omega)]
          unfold thereGo
          rw [if_pos (by omega), hz]
        show readF ((224 + r / 4096) :: (128 + r / 64 % 64) :: (128 + r % 64) :: rest) = _
        unfold readF
        simp only [hn]
        rw [if_neg (by decide), show (3 : Int).toNat - 1 = 2 from rfl, ht, if_neg (by decide)]
        show (valueF [224 + r / 4096, 128 + r / 64 % 64, 128 + r % 64], 3, true) = (r, 3, true)
        congr 1
        show ((224 + r / 4096) % 16 * 64 + (128 + r / 64 % 64) % 64) * 64 + (128 + r % 64) % 64 = r
        omega
      · rw [if_neg h3]
        have hn : needN (240 + r / 262144) = 4 := by unfold needN; rw [if_neg (by omega), if_neg (by omega), if_neg (by omega), if_pos (by omega)]
        have hz : thereGo rest 0 128 191 = 0 := by cases rest <;> rfl
        have ht : thereGo ((128 + r / 4096 % 64) :: (128 + r / 64 % 64) :: (128 + r % 64) :: rest) 3 (needLo (240 + r / 262144)) (needHi (240 + r / 262144)) = 3 := by
          unfold thereGo
          rw [if_pos (by
            unfold needLo needHi
            constructor
            · rw [if_neg (by omega)]
              split <;> omega
            · rw [if_neg (by omega)]
              split <;> omega)]
          unfold thereGo
          rw [if_pos (by omega)]
          unfold thereGo
          rw [if_pos (by omega), hz]
        show readF ((240 + r / 262144) :: (128 + r / 4096 % 64) :: (128 + r / 64 % 64) :: (128 + r % 64) :: rest) = _
        unfold readF
        simp only [hn]
        rw [if_neg (by decide), show (4 : Int).toNat - 1 = 3 from rfl, ht, if_neg (by decide)]
        show (valueF [240 + r / 262144, 128 + r / 4096 % 64, 128 + r / 64 % 64, 128 + r % 64], 4, true) = (r, 4, true)
        congr 1
        show (((240 + r / 262144) % 8 * 64 + (128 + r / 4096 % 64) % 64) * 64 + (128 + r / 64 % 64) % 64) * 64 + (128 + r % 64) % 64 = r
        omega
/-- New bytes, as a result. -/
def NewB (B : Nat) (w : World) (v : Value) (s : ByteArray) : Prop := v = .slice (some ⟨B, 0, none⟩) s.size s.size ∧ BA w (some ⟨B, 0, none⟩) s.size s.size s
theorem newB_of (w : World) (t : TypeId) (zs : List Int) (cs : Array Value) (n : Nat) (hn : zs.length = n) (hs : n ≤ 100) (hc : cs = (zs.map (Value.int .u8)).toArray) (hz : ∀ y ∈ zs, 0 ≤ y ∧ y ≤ 255) :
    NewB w.heap.size (w.alloc (.cells cs t)) (.slice (some ⟨w.heap.size, 0, none⟩) n n) (ofInts zs) := by
  subst hc
  have he : (ofInts zs).size = n := by rw [ofInts_size, hn]
  refine ⟨by rw [he], rfl, Nat.le_refl _, by omega, fun h0 => ⟨w.heap.size, 0, rfl, by simp, ?_⟩⟩
  apply bytes_of_byt
  intro i hi
  rw [Nat.zero_add, ofInts_byt zs hz i (by omega), (Blk.new w t _).cell i]
  simp [List.getD_eq_getElem?_getD, show i < zs.length by omega]

set_option maxRecDepth 100000 in
set_option maxHeartbeats 4000000 in
theorem refput_any (r : Int) (w : World) : Calls Tryd.prog 11 #[.int .i32 r] w fun e w' => ∃ v, e = .returned v ∧ NewB w.heap.size w' v (scB r) ∧ Below w.heap.size w w' := by
  have HR := hid (refright_any r)
  have hmem := fun y hy => (putI_mem r y hy).1
  have HM := hid hmem
  clear hmem
  cases hr : rightR r
  · rw [hr] at HR
    have hp : putI r = [239, 191, 189] := by unfold putI; rw [hr, if_neg (by decide)]; decide
    have HP := hid hp
    clear hr hp
    go_enter Tryd.func11, Tryd.ntmps11
    go_wp2_with (go_at_call 14; refine (HR.out _).mono ?_; rintro e w' ⟨rfl, hw⟩; obtain rfl : w = w' := hw.symm)
    go_ret
    exact ⟨_, rfl, newB_of w _ _ _ _ (by rw [HP.out]; rfl) (by decide) (by rw [HP.out]; rfl) HM.out, (Below.refl _ _).alloc (Nat.le_refl _) _⟩
  · rw [hr] at HR
    have hb : 0 ≤ r ∧ r ≤ 1114111 := by simp [rightR] at hr; omega
    have hp : putI r = putI0 r := by unfold putI; rw [hr]; rfl
    have HP := hid hp
    clear hr hp
    obtain ⟨hb0, hb1⟩ := hb
    by_cases h1 : r < 128
    · have HE := hid (HP.out.trans (show putI0 r = [r] from if_pos h1))
      go_enter Tryd.func11, Tryd.ntmps11
      go_wp2_with (go_at_call 14; refine (HR.out _).mono ?_; rintro e w' ⟨rfl, hw⟩; obtain rfl : w = w' := hw.symm)
      go_ret
      exact ⟨_, rfl, newB_of w _ _ _ _ (by rw [HE.out]; rfl) (by decide) (by rw [HE.out]; rfl) HM.out, (Below.refl _ _).alloc (Nat.le_refl _) _⟩
    · by_cases h2 : r < 2048
      · have HE := hid (HP.out.trans (show putI0 r = _ from (if_neg h1).trans (if_pos h2)))
        go_enter Tryd.func11, Tryd.ntmps11
        go_wp2_with (go_at_call 14; refine (HR.out _).mono ?_; rintro e w' ⟨rfl, hw⟩; obtain rfl : w = w' := hw.symm)
        go_ret
        exact ⟨_, rfl, newB_of w _ _ _ _ (by rw [HE.out]; rfl) (by decide) (by rw [HE.out]; rfl) HM.out, (Below.refl _ _).alloc (Nat.le_refl _) _⟩
      · by_cases h3 : r < 65536
        · have HE := hid (HP.out.trans (show putI0 r = _ from (if_neg h1).trans ((if_neg h2).trans (if_pos h3))))
          go_enter Tryd.func11, Tryd.ntmps11
          go_wp2_with (go_at_call 14; refine (HR.out _).mono ?_; rintro e w' ⟨rfl, hw⟩; obtain rfl : w = w' := hw.symm)
          go_ret
          exact ⟨_, rfl, newB_of w _ _ _ _ (by rw [HE.out]; rfl) (by decide) (by rw [HE.out]; rfl) HM.out, (Below.refl _ _).alloc (Nat.le_refl _) _⟩
        · have HE := hid (HP.out.trans (show putI0 r = _ from (if_neg h1).trans ((if_neg h2).trans (if_neg h3))))
          go_enter Tryd.func11, Tryd.ntmps11
          go_wp2_with (go_at_call 14; refine (HR.out _).mono ?_; rintro e w' ⟨rfl, hw⟩; obtain rfl : w = w' := hw.symm)
          go_ret
          exact ⟨_, rfl, newB_of w _ _ _ _ (by rw [HE.out]; rfl) (by decide) (by rw [HE.out]; rfl) HM.out, (Below.refl _ _).alloc (Nat.le_refl _) _⟩
end Go.Proofs.YtbkjanlkklmleaaDoor
