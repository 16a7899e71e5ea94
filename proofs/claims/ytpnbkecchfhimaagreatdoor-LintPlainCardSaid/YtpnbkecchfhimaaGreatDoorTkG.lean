/- Chapter 19: a kind's name, a token's text: walks. -/
import Derived.Test.YtpnbkecchfhimaaGreatDoorTkM1
import Derived.Test.YtpnbkecchfhimaaGreatDoorHx1
import Derived.Lib.ItoaLen
namespace Go.Proofs.YtpnbkecchfhimaaGreatDoor
open Go.RowKit Go.Shelf
open Go.Lib (hid)
set_option linter.unusedVariables false
set_option maxRecDepth 100000

def kn0 : ByteArray := ⟨#[116, 101, 120, 116]⟩
def kn1 : ByteArray := ⟨#[114, 101, 102]⟩
def kn2 : ByteArray := ⟨#[115, 116, 97, 114, 116]⟩
def kn3 : ByteArray := ⟨#[101, 110, 100]⟩
def kn4 : ByteArray := ⟨#[99, 111, 109, 109, 101, 110, 116]⟩
def kn5 : ByteArray := ⟨#[100, 101, 99, 108]⟩
def kn6 : ByteArray := ⟨#[101, 115, 99, 97, 112, 101]⟩
def kn7 : ByteArray := ⟨#[114, 97, 119]⟩
def kindB (k : Int) : ByteArray := if k = 0 then kn0 else if k = 1 then kn1 else if k = 2 then kn2 else if k = 3 then kn3 else if k = 4 then kn4 else if k = 5 then kn5 else if k = 6 then kn6 else if k = 7 then kn7 else noB
theorem kidx0 (w : World) : (Instr.index 149 (.agg #[.string ⟨#[116, 101, 120, 116]⟩, .string ⟨#[114, 101, 102]⟩, .string ⟨#[115, 116, 97, 114, 116]⟩, .string ⟨#[101, 110, 100]⟩, .string ⟨#[99, 111, 109, 109, 101, 110, 116]⟩, .string ⟨#[100, 101, 99, 108]⟩, .string ⟨#[101, 115, 99, 97, 112, 101]⟩, .string ⟨#[114, 97, 119]⟩]) (.int .i64 0)).run Tryz.prog w = .ok (.string ⟨#[116, 101, 120, 116]⟩) w := by kernel_rfl
theorem kidx1 (w : World) : (Instr.index 149 (.agg #[.string ⟨#[116, 101, 120, 116]⟩, .string ⟨#[114, 101, 102]⟩, .string ⟨#[115, 116, 97, 114, 116]⟩, .string ⟨#[101, 110, 100]⟩, .string ⟨#[99, 111, 109, 109, 101, 110, 116]⟩, .string ⟨#[100, 101, 99, 108]⟩, .string ⟨#[101, 115, 99, 97, 112, 101]⟩, .string ⟨#[114, 97, 119]⟩]) (.int .i64 1)).run Tryz.prog w = .ok (.string ⟨#[114, 101, 102]⟩) w := by kernel_rfl
theorem kidx2 (w : World) : (Instr.index 149 (.agg #[.string ⟨#[116, 101, 120, 116]⟩, .string ⟨#[114, 101, 102]⟩, .string ⟨#[115, 116, 97, 114, 116]⟩, .string ⟨#[101, 110, 100]⟩, .string ⟨#[99, 111, 109, 109, 101, 110, 116]⟩, .string ⟨#[100, 101, 99, 108]⟩, .string ⟨#[101, 115, 99, 97, 112, 101]⟩, .string ⟨#[114, 97, 119]⟩]) (.int .i64 2)).run Tryz.prog w = .ok (.string ⟨#[115, 116, 97, 114, 116]⟩) w := by kernel_rfl
theorem kidx3 (w : World) : (Instr.index 149 (.agg #[.string ⟨#[116, 101, 120, 116]⟩, .string ⟨#[114, 101, 102]⟩, .string ⟨#[115, 116, 97, 114, 116]⟩, .string ⟨#[101, 110, 100]⟩, .string ⟨#[99, 111, 109, 109, 101, 110, 116]⟩, .string ⟨#[100, 101, 99, 108]⟩, .string ⟨#[101, 115, 99, 97, 112, 101]⟩, .string ⟨#[114, 97, 119]⟩]) (.int .i64 3)).run Tryz.prog w = .ok (.string ⟨#[101, 110, 100]⟩) w := by kernel_rfl
theorem kidx4 (w : World) : (Instr.index 149 (.agg #[.string ⟨#[116, 101, 120, 116]⟩, .string ⟨#[114, 101, 102]⟩, .string ⟨#[115, 116, 97, 114, 116]⟩, .string ⟨#[101, 110, 100]⟩, .string ⟨#[99, 111, 109, 109, 101, 110, 116]⟩, .string ⟨#[100, 101, 99, 108]⟩, .string ⟨#[101, 115, 99, 97, 112, 101]⟩, .string ⟨#[114, 97, 119]⟩]) (.int .i64 4)).run Tryz.prog w = .ok (.string ⟨#[99, 111, 109, 109, 101, 110, 116]⟩) w := by kernel_rfl
theorem kidx5 (w : World) : (Instr.index 149 (.agg #[.string ⟨#[116, 101, 120, 116]⟩, .string ⟨#[114, 101, 102]⟩, .string ⟨#[115, 116, 97, 114, 116]⟩, .string ⟨#[101, 110, 100]⟩, .string ⟨#[99, 111, 109, 109, 101, 110, 116]⟩, .string ⟨#[100, 101, 99, 108]⟩, .string ⟨#[101, 115, 99, 97, 112, 101]⟩, .string ⟨#[114, 97, 119]⟩]) (.int .i64 5)).run Tryz.prog w = .ok (.string ⟨#[100, 101, 99, 108]⟩) w := by kernel_rfl
theorem kidx6 (w : World) : (Instr.index 149 (.agg #[.string ⟨#[116, 101, 120, 116]⟩, .string ⟨#[114, 101, 102]⟩, .string ⟨#[115, 116, 97, 114, 116]⟩, .string ⟨#[101, 110, 100]⟩, .string ⟨#[99, 111, 109, 109, 101, 110, 116]⟩, .string ⟨#[100, 101, 99, 108]⟩, .string ⟨#[101, 115, 99, 97, 112, 101]⟩, .string ⟨#[114, 97, 119]⟩]) (.int .i64 6)).run Tryz.prog w = .ok (.string ⟨#[101, 115, 99, 97, 112, 101]⟩) w := by kernel_rfl
theorem kidx7 (w : World) : (Instr.index 149 (.agg #[.string ⟨#[116, 101, 120, 116]⟩, .string ⟨#[114, 101, 102]⟩, .string ⟨#[115, 116, 97, 114, 116]⟩, .string ⟨#[101, 110, 100]⟩, .string ⟨#[99, 111, 109, 109, 101, 110, 116]⟩, .string ⟨#[100, 101, 99, 108]⟩, .string ⟨#[101, 115, 99, 97, 112, 101]⟩, .string ⟨#[114, 97, 119]⟩]) (.int .i64 7)).run Tryz.prog w = .ok (.string ⟨#[114, 97, 119]⟩) w := by kernel_rfl
theorem kindB_none {k : Int} (h : k < 0 ∨ 7 < k) : kindB k = noB := by
  unfold kindB
  rw [if_neg (show ¬ k = 0 by omega)]
  rw [if_neg (show ¬ k = 1 by omega)]
  rw [if_neg (show ¬ k = 2 by omega)]
  rw [if_neg (show ¬ k = 3 by omega)]
  rw [if_neg (show ¬ k = 4 by omega)]
  rw [if_neg (show ¬ k = 5 by omega)]
  rw [if_neg (show ¬ k = 6 by omega)]
  rw [if_neg (show ¬ k = 7 by omega)]
theorem kindB_size (k : Int) : (kindB k).size ≤ 7 := by
  unfold kindB
  repeat' split
  all_goals decide
theorem kindB_pos {k : Int} (h0 : 0 ≤ k) (h7 : k ≤ 7) : 0 < (kindB k).size := by
  rcases (by omega : k = 0 ∨ k = 1 ∨ k = 2 ∨ k = 3 ∨ k = 4 ∨ k = 5 ∨ k = 6 ∨ k = 7) with rfl | rfl | rfl | rfl | rfl | rfl | rfl | rfl <;> decide
set_option maxHeartbeats 1000000 in
theorem kind_any (k : Int) (w : World) : Calls Tryz.prog 55 #[.int .i64 k] w fun e w' => e = .returned (.string (kindB k)) ∧ w' = w := by
  by_cases h : k < 0 ∨ 7 < k
  · rw [kindB_none h]
    by_cases h0 : k < 0
    · clear h
      go_enter Tryz.func55, Tryz.ntmps55
      go_wp2_with fail
      go_ret
      exact ⟨rfl, rfl⟩
    · have h8 : 8 ≤ k := by omega
      clear h
      go_enter Tryz.func55, Tryz.ntmps55
      go_wp2_with fail
      go_ret
      exact ⟨rfl, rfl⟩
  · rcases (by omega : k = 0 ∨ k = 1 ∨ k = 2 ∨ k = 3 ∨ k = 4 ∨ k = 5 ∨ k = 6 ∨ k = 7) with rfl | rfl | rfl | rfl | rfl | rfl | rfl | rfl
    · clear h
      have ix := kidx0
      go_enter Tryz.func55, Tryz.ntmps55
      go_wp2_with fail
      go_ret
      exact ⟨rfl, rfl⟩
    · clear h
      have ix := kidx1
      go_enter Tryz.func55, Tryz.ntmps55
      go_wp2_with fail
      go_ret
      exact ⟨rfl, rfl⟩
    · clear h
      have ix := kidx2
      go_enter Tryz.func55, Tryz.ntmps55
      go_wp2_with fail
      go_ret
      exact ⟨rfl, rfl⟩
    · clear h
      have ix := kidx3
      go_enter Tryz.func55, Tryz.ntmps55
      go_wp2_with fail
      go_ret
      exact ⟨rfl, rfl⟩
    · clear h
      have ix := kidx4
      go_enter Tryz.func55, Tryz.ntmps55
      go_wp2_with fail
      go_ret
      exact ⟨rfl, rfl⟩
    · clear h
      have ix := kidx5
      go_enter Tryz.func55, Tryz.ntmps55
      go_wp2_with fail
      go_ret
      exact ⟨rfl, rfl⟩
    · clear h
      have ix := kidx6
      go_enter Tryz.func55, Tryz.ntmps55
      go_wp2_with fail
      go_ret
      exact ⟨rfl, rfl⟩
    · clear h
      have ix := kidx7
      go_enter Tryz.func55, Tryz.ntmps55
      go_wp2_with fail
      go_ret
      exact ⟨rfl, rfl⟩
def itoaB (x : Int) : ByteArray := ⟨(Lib.itoa x).toArray⟩
theorem itoaB_size {x : Int} (h0 : -9223372036854775808 ≤ x) (h1 : x ≤ 9223372036854775807) : (itoaB x).size ≤ 21 := by
  have := Lib.itoa_length_le x h0 h1
  simpa [itoaB, ByteArray.size] using this
def spB : ByteArray := ⟨#[32]⟩
def slB : ByteArray := ⟨#[32, 47]⟩
/-- What every token's text begins with. -/
def preP (k f t : Int) : ByteArray := kindB k ++ (((spB ++ itoaB f) ++ spB) ++ itoaB t)
/-- A token's text. -/
def printB (k f t : Int) (nm : ByteArray) (r : Int) (sg : Bool) : ByteArray :=
  if k < 0 ∨ 7 < k then noB
  else if k = 1 then (preP k f t ++ spB) ++ Hx.prB r
  else if k = 2 ∨ k = 3 then (if sg = true then (preP k f t ++ (spB ++ nm)) ++ slB else preP k f t ++ (spB ++ nm))
  else preP k f t
theorem prB_size {z : Int} (h0 : -2147483648 ≤ z) (h1 : z ≤ 2147483647) : (Hx.prB z).size ≤ 11 := by
  have := Hx.hex4U_len z.natAbs (by omega)
  have h2 : (Hx.signD z).length ≤ 1 := by unfold Hx.signD; split <;> decide
  unfold Hx.prB
  rw [Hx.mkB_size, List.length_append, List.length_append]
  show 2 + _ + _ ≤ _
  omega
def PS (B : Nat) (w : World) (k f t : Int) (nm : ByteArray) (r : Int) (sg : Bool) (w' : World) : Prop :=
  w'.cell? ⟨B, 0, none⟩ = some (.int .i64 k) ∧ w'.cell? ⟨B, 1, none⟩ = some (.int .i64 f) ∧ w'.cell? ⟨B, 2, none⟩ = some (.int .i64 t) ∧ w'.cell? ⟨B, 3, none⟩ = some (.string nm) ∧ w'.cell? ⟨B, 4, none⟩ = some (.int .i32 r) ∧ w'.cell? ⟨B, 5, none⟩ = some (.bool sg) ∧ Below B w w' ∧ B < w'.heap.size
theorem PS_next {B : Nat} {w : World} {k f t : Int} {nm : ByteArray} {r : Int} {sg : Bool} {w1 w2 : World} (h : PS B w k f t nm r sg w1) (hb : Below w1.heap.size w1 w2) : PS B w k f t nm r sg w2 := by
  obtain ⟨h0, h1, h2, h3, h4, h5, h6, h7⟩ := h
  exact ⟨(hb.cell (p := ⟨B, 0, none⟩) h7).trans h0, (hb.cell (p := ⟨B, 1, none⟩) h7).trans h1, (hb.cell (p := ⟨B, 2, none⟩) h7).trans h2, (hb.cell (p := ⟨B, 3, none⟩) h7).trans h3, (hb.cell (p := ⟨B, 4, none⟩) h7).trans h4, (hb.cell (p := ⟨B, 5, none⟩) h7).trans h5, h6.trans (hb.mono (by omega)), Nat.lt_of_lt_of_le h7 hb.size⟩
set_option maxHeartbeats 8000000 in
theorem print_any (k f t : Int) (nm : ByteArray) (r : Int) (sg : Bool) (w : World) (hnm : nm.size ≤ 1000000) (hf : (itoaB f).size ≤ 21) (ht : (itoaB t).size ≤ 21) (h0 : -2147483648 ≤ r) (h1 : r ≤ 2147483647) (hdb : Hx.Db w)
    (hI : ∀ W, Below w.heap.size w W → Calls Tryz.prog 50 #[.int .i64 f] W (fun e w' => e = .returned (.string (itoaB f)) ∧ Below W.heap.size W w') ∧ Calls Tryz.prog 50 #[.int .i64 t] W (fun e w' => e = .returned (.string (itoaB t)) ∧ Below W.heap.size W w')) :
    Calls Tryz.prog 32 #[.agg #[.int .i64 k, .int .i64 f, .int .i64 t, .string nm, .int .i32 r, .bool sg]] w fun e w' => e = .returned (.string (printB k f t nm r sg)) ∧ Below w.heap.size w w' := by
  have HKD := hid (fun W => kind_any k W)
  have HDB := hid (fun W (h : Below w.heap.size w W) => Hx.scPrint_any r h0 h1 W (hdb.below h (Nat.le_refl _)))
  have HI := hid hI
  have hbz := (Below.refl w.heap.size w).alloc (Nat.le_refl _) (.cells #[.int .i64 k, .int .i64 f, .int .i64 t, .string nm, .int .i32 r, .bool sg] 29)
  have hbk := Blk.new w 29 #[.int .i64 k, .int .i64 f, .int .i64 t, .string nm, .int .i32 r, .bool sg]
  have x0 := hbk.cell 0
  have x1 := hbk.cell 1
  have x2 := hbk.cell 2
  have x3 := hbk.cell 3
  have x4 := hbk.cell 4
  have x5 := hbk.cell 5
  simp only [List.getElem?_toArray, List.getElem?_cons_zero, List.getElem?_cons_succ] at x0 x1 x2 x3 x4 x5
  have HBL := hid hbz
  have HLT := hid hbk.lt
  clear hI hdb hbz hbk
  by_cases hk : k < 0 ∨ 7 < k
  · have HP := hid (show printB k f t nm r sg = noB from if_pos hk)
    rw [kindB_none hk] at HKD
    clear hk
    go_enter Tryz.func32, Tryz.ntmps32
    go_wp2_with fail
    generalize w.alloc (.cells #[.int .i64 k, .int .i64 f, .int .i64 t, .string nm, .int .i32 r, .bool sg] 29) = w1 at *
    refine (HKD.out _).mono ?_
    rintro e w2 ⟨rfl, hw2⟩
    obtain rfl : w1 = w2 := hw2.symm
    unfold noB
    go_wp2_with fail
    go_ret
    rw [HP.out]
    exact ⟨rfl, HBL.out⟩
  · have hkp := kindB_pos (k := k) (by omega) (by omega)
    have hks := kindB_size k
    have HPP := hid (show preP k f t = kindB k ++ (((spB ++ itoaB f) ++ spB) ++ itoaB t) from rfl)
    have HPR := hid (show printB k f t nm r sg = (if k = 1 then (preP k f t ++ spB) ++ Hx.prB r
  else if k = 2 ∨ k = 3 then (if sg = true then (preP k f t ++ (spB ++ nm)) ++ slB else preP k f t ++ (spB ++ nm))
  else preP k f t) from if_neg hk)
    have hpz := prB_size h0 h1
    generalize itoaB f = A at *
    generalize itoaB t = B at *
    generalize preP k f t = PP at *
    generalize printB k f t nm r sg = PR at *
    generalize kindB k = K0 at *
    generalize Hx.prB r = PZ at *
    have hpps : PP.size ≤ 60 := by rw [HPP.out]; (repeat rw [ByteArray.size_append]); show K0.size + (1 + A.size + 1 + B.size) ≤ 60; omega
    have hK0 : ¬ K0.toList = [] := fun e => by
      have : K0.size = 0 := by
        have := congrArg List.length e
        rw [Lib.toList_data] at this
        exact this
      omega
    have hK1 : (K0.toList == []) = false := by simpa using hK0
    have hc1 : ¬ (1 + A.size > 9223372036854775807) := by omega
    have hc2 : ¬ (9223372036854775807 < 1 + A.size) := by omega
    have hc3 : ¬ (1 + A.size + 1 > 9223372036854775807) := by omega
    have hc4 : ¬ (9223372036854775807 < 1 + A.size + 1) := by omega
    have hc5 : ¬ (1 + A.size + 1 + B.size > 9223372036854775807) := by omega
    have hc6 : ¬ (9223372036854775807 < 1 + A.size + 1 + B.size) := by omega
    have hc7 : ¬ (K0.size + (1 + A.size + 1 + B.size) > 9223372036854775807) := by omega
    have hc8 : ¬ (9223372036854775807 < K0.size + (1 + A.size + 1 + B.size)) := by omega
    have HH := hid (And.intro hkp (And.intro hks (And.intro hf ht)))
    clear hkp hks hf ht
    go_enter Tryz.func32, Tryz.ntmps32
    go_upto_region 4 with (go_at_call 55; refine (HKD.out _).mono ?_; rintro e w2 ⟨rfl, hw2⟩; rw [hw2]; clear hw2)
    generalize w.alloc (.cells #[.int .i64 k, .int .i64 f, .int .i64 t, .string nm, .int .i32 r, .bool sg] 29) = w1 at *
    have hbl1 := HBL.out
    have hlt1 := HLT.out
    refine wp_region_held_drew (S := fun w' : World => w'.cell? ⟨w.heap.size, 0, none⟩ = some (.int .i64 k) ∧ w'.cell? ⟨w.heap.size, 1, none⟩ = some (.int .i64 f) ∧ w'.cell? ⟨w.heap.size, 2, none⟩ = some (.int .i64 t) ∧ w'.cell? ⟨w.heap.size, 3, none⟩ = some (.string nm) ∧ w'.cell? ⟨w.heap.size, 4, none⟩ = some (.int .i32 r) ∧ w'.cell? ⟨w.heap.size, 5, none⟩ = some (.bool sg) ∧ Below w.heap.size w w' ∧ w.heap.size < w'.heap.size) (by kernel_rfl) ⟨x0, x1, x2, x3, x4, x5, hbl1.drew, hlt1⟩ (fun hHeld => ?_)
    clear x0 x1 x2 x3 x4 x5 hbl1 hlt1
    refine wpAnyH_take (i := 0) (v := ?hv1) rfl (by kernel_rfl) (by kernel_rfl) (by kernel_rfl) (fun _ _ _ h => h) (Or.inl ⟨by rfl, ?hy1⟩) (by assumption) ?hr1
    case hy1 => (intro w hSw; (try dsimp only at hSw); go_simp; try with_reducible rfl)
    (try simp only [Act.put, List.getElem_toArray, List.getElem_cons_zero, List.setIfInBounds_toArray, List.set_cons_zero, List.set_cons_succ])
    refine wpAnyH_take (i := 1) (v := ?hv2) rfl (by kernel_rfl) (by kernel_rfl) (by kernel_rfl) (fun _ _ _ h => h) (Or.inl ⟨by rfl, ?hy2⟩) (by assumption) ?hr2
    case hy2 => (intro w hSw; (try dsimp only at hSw); go_simp; try with_reducible rfl)
    (try simp only [Act.put, List.getElem_toArray, List.getElem_cons_zero, List.getElem_cons_succ, List.setIfInBounds_toArray, List.set_cons_zero, List.set_cons_succ])
    refine wpAnyH_take (i := 2) (v := ?hv3) rfl (by kernel_rfl) (by kernel_rfl) (by kernel_rfl) (fun _ _ _ h => h) (Or.inl ⟨by rfl, ?hy3⟩) (by assumption) ?hr3
    case hy3 => (intro w hSw; (try dsimp only at hSw); go_simp; try with_reducible rfl)
    (try simp only [Act.put, List.getElem_toArray, List.getElem_cons_zero, List.getElem_cons_succ, List.setIfInBounds_toArray, List.set_cons_zero, List.set_cons_succ])
    refine wpAnyH_take (i := 6) (v := ?hv4) rfl (by kernel_rfl) (by kernel_rfl) (by kernel_rfl) (fun _ _ _ h => h) (Or.inl ⟨by rfl, ?hy4⟩) (by assumption) ?hr4
    case hy4 => (intro w hSw; (try dsimp only at hSw); go_simp; try with_reducible rfl)
    (try simp only [Act.put, List.getElem_toArray, List.getElem_cons_zero, List.getElem_cons_succ, List.setIfInBounds_toArray, List.set_cons_zero, List.set_cons_succ])
    refine wpAnyH_take (i := 7) (v := ?hv5) rfl (by kernel_rfl) (by kernel_rfl) (by kernel_rfl) (fun _ _ _ h => h) (Or.inl ⟨by rfl, ?hy5⟩) (by assumption) ?hr5
    case hy5 => (intro w hSw; (try dsimp only at hSw); go_simp; try with_reducible rfl)
    (try simp only [Act.put, List.getElem_toArray, List.getElem_cons_zero, List.getElem_cons_succ, List.setIfInBounds_toArray, List.set_cons_zero, List.set_cons_succ])
    refine wpAnyH_ready (rs := [3]) (by kernel_rfl) (by simp) ?_
    refine AllReadyH.cons rfl (fun K hK => ?_) AllReadyH.nil
    go_simp
    go_at_call 50
    have HC := hid (HI.out _ hHeld.2.2.2.2.2.2.1).1
    refine HC.out.mono ?_
    rintro e w4 ⟨rfl, hb4⟩
    go_wp2_with fail
    refine hK.out _ _ (PS_next hHeld hb4) (fun hHeld2 => ?_)
    clear hK K hHeld HC hb4
    refine wpAnyH_take (i := 4) (v := ?hv6) rfl (by kernel_rfl) (by kernel_rfl) (by kernel_rfl) (fun _ _ _ h => h) (Or.inl ⟨by rfl, ?hy6⟩) (by assumption) ?hr6
    case hy6 => (intro w hSw; (try dsimp only at hSw); go_simp; try with_reducible rfl)
    (try simp only [Act.put, List.getElem_toArray, List.getElem_cons_zero, List.getElem_cons_succ, List.setIfInBounds_toArray, List.set_cons_zero, List.set_cons_succ])
    refine wpAnyH_take (i := 5) (v := ?hv7) rfl (by kernel_rfl) (by kernel_rfl) (by kernel_rfl) (fun _ _ _ h => h) (Or.inl ⟨by rfl, ?hy7⟩) (by assumption) ?hr7
    case hy7 => (intro w hSw; (try dsimp only at hSw); go_simp; try with_reducible rfl)
    (try simp only [Act.put, List.getElem_toArray, List.getElem_cons_zero, List.getElem_cons_succ, List.setIfInBounds_toArray, List.set_cons_zero, List.set_cons_succ])
    refine wpAnyH_ready (rs := [8]) (by kernel_rfl) (by simp) ?_
    refine AllReadyH.cons rfl (fun K hK => ?_) AllReadyH.nil
    go_simp
    go_at_call 50
    have HC := hid (HI.out _ hHeld2.2.2.2.2.2.2.1).2
    refine HC.out.mono ?_
    rintro e w5 ⟨rfl, hb5⟩
    go_wp2_with fail
    refine hK.out _ _ (PS_next hHeld2 hb5) (fun hHeld3 => ?_)
    clear hK K hHeld2 HC hb5
    refine wpAnyH_take (i := 9) (v := ?hv8) rfl (by kernel_rfl) (by kernel_rfl) (by kernel_rfl) (fun _ _ _ h => h) (Or.inl ⟨by rfl, ?hy8⟩) (by assumption) ?hr8
    case hy8 => (intro w hSw; (try dsimp only at hSw); go_simp; try with_reducible rfl)
    (try simp only [Act.put, List.getElem_toArray, List.getElem_cons_zero, List.getElem_cons_succ, List.setIfInBounds_toArray, List.set_cons_zero, List.set_cons_succ])
    refine wpAnyH_take (i := 10) (v := ?hv9) rfl (by kernel_rfl) (by kernel_rfl) (by kernel_rfl) (fun _ _ _ h => h) (Or.inl ⟨by rfl, ?hy9⟩) (by assumption) ?hr9
    case hy9 => (intro w hSw; (try dsimp only at hSw); go_simp; try with_reducible rfl)
    (try simp only [Act.put, List.getElem_toArray, List.getElem_cons_zero, List.getElem_cons_succ, List.setIfInBounds_toArray, List.set_cons_zero, List.set_cons_succ])
    refine wpAnyH_take (i := 11) (v := ?hv10) rfl (by kernel_rfl) (by kernel_rfl) (by kernel_rfl) (fun _ _ _ h => h) (Or.inl ⟨by rfl, ?hy10⟩) (by assumption) ?hr10
    case hy10 => (intro w hSw; (try dsimp only at hSw); go_simp; try with_reducible rfl)
    (try simp only [Act.put, List.getElem_toArray, List.getElem_cons_zero, List.getElem_cons_succ, List.setIfInBounds_toArray, List.set_cons_zero, List.set_cons_succ])
    refine wpAnyH_done (by kernel_rfl) ?_ _
    obtain ⟨x0, x1, x2, x3, x4, x5, hbl3, hlt3⟩ := hHeld3
    have HB3 := hid hbl3
    have hs3 := hbl3.size
    have HPX := hid (show K0 ++ (((⟨#[32]⟩ ++ A) ++ ⟨#[32]⟩) ++ B) = PP from HPP.out.symm)
    rw [HPX.out]
    have hd1 : ¬ (PP.size + 1 > 9223372036854775807) := by omega
    have hd2 : ¬ (9223372036854775807 < PP.size + 1) := by omega
    have hd3 : ¬ (PP.size + 1 + PZ.size > 9223372036854775807) := by omega
    have hd4 : ¬ (9223372036854775807 < PP.size + 1 + PZ.size) := by omega
    have hd5 : ¬ (1 + nm.size > 9223372036854775807) := by omega
    have hd6 : ¬ (9223372036854775807 < 1 + nm.size) := by omega
    have hd7 : ¬ (PP.size + (1 + nm.size) > 9223372036854775807) := by omega
    have hd8 : ¬ (9223372036854775807 < PP.size + (1 + nm.size)) := by omega
    have hd9 : ¬ (PP.size + (1 + nm.size) + 2 > 9223372036854775807) := by omega
    have hd10 : ¬ (9223372036854775807 < PP.size + (1 + nm.size) + 2) := by omega
    clear hbl3 hlt3 hs3
    by_cases hk1 : k = 1
    · subst hk1
      have HF := hid (show PR = (PP ++ spB) ++ PZ by rw [HPR.out, if_pos rfl])
      go_wp2_with (go_at_call 56; refine (HDB.out _ HB3.out).mono ?_; rintro e w6 ⟨rfl, hb6⟩; have HB6 := hid (HB3.out.trans (hb6.mono HB3.out.size)); clear hb6)
      go_ret
      rw [HF.out]
      exact ⟨rfl, HB6.out⟩
    · by_cases hk2 : k = 2
      · subst hk2
        cases sg
        · have HF := hid (show PR = PP ++ (spB ++ nm) by rw [HPR.out, if_neg (by decide), if_pos (.inl rfl)]; rfl)
          go_wp2_with fail
          go_ret
          rw [HF.out]
          exact ⟨rfl, HB3.out⟩
        · have HF := hid (show PR = (PP ++ (spB ++ nm)) ++ slB by rw [HPR.out, if_neg (by decide), if_pos (.inl rfl)]; rfl)
          go_wp2_with fail
          go_ret
          rw [HF.out]
          exact ⟨rfl, HB3.out⟩
      · by_cases hk3 : k = 3
        · subst hk3
          cases sg
          · have HF := hid (show PR = PP ++ (spB ++ nm) by rw [HPR.out, if_neg (by decide), if_pos (.inr rfl)]; rfl)
            go_wp2_with fail
            go_ret
            rw [HF.out]
            exact ⟨rfl, HB3.out⟩
          · have HF := hid (show PR = (PP ++ (spB ++ nm)) ++ slB by rw [HPR.out, if_neg (by decide), if_pos (.inr rfl)]; rfl)
            go_wp2_with fail
            go_ret
            rw [HF.out]
            exact ⟨rfl, HB3.out⟩
        · have HF := hid (show PR = PP by rw [HPR.out, if_neg hk1, if_neg (fun h => h.elim hk2 hk3)])
          have q1 : (k == 1) = false := by simpa using hk1
          have q2 : (k == 2) = false := by simpa using hk2
          have q3 : (k == 3) = false := by simpa using hk3
          clear hk1 hk2 hk3 hk
          go_wp2_with fail
          go_ret
          rw [HF.out]
          exact ⟨rfl, HB3.out⟩
end Go.Proofs.YtpnbkecchfhimaaGreatDoor
