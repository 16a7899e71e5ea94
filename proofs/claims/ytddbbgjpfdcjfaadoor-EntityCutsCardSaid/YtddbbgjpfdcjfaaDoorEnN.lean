/- Chapter 16: the document's examples: the walk. -/
import Derived.Test.YtddbbgjpfdcjfaaDoorEnM
namespace Go.Proofs.YtddbbgjpfdcjfaaDoor
open Go.RowKit
open Go.Shelf
open Go.Lib (hid)
set_option linter.unusedVariables false

theorem ba_const (s : ByteArray) (cs : Array Value) (n : Nat) (hn : n = s.size) (h100 : n ≤ 100) (hc : cs = s.data.map fun b => Value.int .u8 b.toNat) (W : World) (fr : Nat × Nat) : BA (W.alloc (.cells cs 5 fr)) (some ⟨W.heap.size, 0, none⟩) n n s := by
  refine ⟨hn, Nat.le_refl _, by omega, fun _ => ⟨W.heap.size, 0, rfl, by simp, ?_⟩⟩
  intro i hi
  rw [Nat.zero_add, cell_of_row _ W.heap.size i _ _ _ (heap_alloc_new W (.cells cs 5 fr)), hc, Array.getElem?_map]
  have hi' : i < s.data.size := hi
  rw [Array.getElem?_eq_getElem hi']
  rfl
theorem below_const (W : World) (o : Obj) : Below W.heap.size W (W.alloc o) := (Below.refl _ _).alloc (Nat.le_refl _) _
def ex1 : ByteArray := ⟨#[120, 38, 97, 109, 112, 59]⟩
def ex2 : ByteArray := ⟨#[38, 35, 120, 52, 49, 59]⟩
def ex3 : ByteArray := ⟨#[38, 35, 48, 59]⟩
def ex4 : ByteArray := ⟨#[38, 97, 109, 112]⟩
theorem ex1_is : entR ex1 1 = some (38, 5) := by kernel_rfl
theorem ex2_is : entR ex2 0 = some (65, 6) := by kernel_rfl
theorem ex3_is : entR ex3 0 = some (65533, 4) := by kernel_rfl
theorem ex4_is : entO ex4 = true := by kernel_rfl
def ec1 : Array Value := #[.int .u8 120, .int .u8 38, .int .u8 97, .int .u8 109, .int .u8 112, .int .u8 59]
def ec2 : Array Value := #[.int .u8 38, .int .u8 35, .int .u8 120, .int .u8 52, .int .u8 49, .int .u8 59]
def ec3 : Array Value := #[.int .u8 38, .int .u8 35, .int .u8 48, .int .u8 59]
def ec4 : Array Value := #[.int .u8 38, .int .u8 97, .int .u8 109, .int .u8 112]
set_option maxRecDepth 100000 in
set_option maxHeartbeats 4000000 in
theorem awake_any (w : World) : Calls Tryd.prog 8 #[] w fun e w' => e = .returned (.bool true) ∧ Below w.heap.size w w' := by
  have kc1 := fun W => Lib.run_convert_bytes_const (P := Tryd.prog) W 22 5 ec1 6 6 Tryd.underlying22 Tryd.underlying5
  have kc2 := fun W => Lib.run_convert_bytes_const (P := Tryd.prog) W 22 5 ec2 6 6 Tryd.underlying22 Tryd.underlying5
  have kc3 := fun W => Lib.run_convert_bytes_const (P := Tryd.prog) W 22 5 ec3 4 4 Tryd.underlying22 Tryd.underlying5
  have kc4 := fun W => Lib.run_convert_bytes_const (P := Tryd.prog) W 22 5 ec4 4 4 Tryd.underlying22 Tryd.underlying5
  simp only [ec1, ec2, ec3, ec4, List.size_toArray, List.length_cons, List.length_nil, Nat.reduceAdd] at kc1 kc2 kc3 kc4
  have HA1 := hid (fun (W : World) => entread_any (some ⟨W.heap.size, 0, none⟩) 6 6 1 ex1 _ (ba_const ex1 ec1 6 rfl (by decide) (by kernel_rfl) W (6, 7)) (by decide) (by decide))
  have HA2 := hid (fun (W : World) => entread_any (some ⟨W.heap.size, 0, none⟩) 6 6 0 ex2 _ (ba_const ex2 ec2 6 rfl (by decide) (by kernel_rfl) W (6, 7)) (by decide) (by decide))
  have HA3 := hid (fun (W : World) => entread_any (some ⟨W.heap.size, 0, none⟩) 4 4 0 ex3 _ (ba_const ex3 ec3 4 rfl (by decide) (by kernel_rfl) W (4, 5)) (by decide) (by decide))
  have HA4 := hid (fun (W : World) => entopen_any (some ⟨W.heap.size, 0, none⟩) 4 4 ex4 _ (ba_const ex4 ec4 4 rfl (by decide) (by kernel_rfl) W (4, 5)) (by decide))
  rw [ex1_is] at HA1
  rw [ex2_is] at HA2
  rw [ex3_is] at HA3
  rw [ex4_is] at HA4
  simp only [pairV, Option.getD_some] at HA1 HA2 HA3
  go_enter Tryd.func8, Tryd.ntmps8
  go_wp2_with fail
  refine (HA1.out w).mono ?_
  rintro e w2 ⟨rfl, hb2⟩
  have HB2 := hid ((below_const w _).trans (hb2.mono (by simp)))
  clear hb2
  go_wp2_with fail
  refine (HA2.out w2).mono ?_
  rintro e w3 ⟨rfl, hb3⟩
  have HB3 := hid (HB2.out.trans (((below_const w2 _).trans (hb3.mono (by simp))).mono HB2.out.size))
  clear hb3
  go_wp2_with fail
  refine (HA3.out w3).mono ?_
  rintro e w4 ⟨rfl, hb4⟩
  have HB4 := hid (HB3.out.trans (((below_const w3 _).trans (hb4.mono (by simp))).mono HB3.out.size))
  clear hb4
  go_wp2_with fail
  refine (HA4.out w4).mono ?_
  rintro e w5 ⟨rfl, hb5⟩
  have HB5 := hid (HB4.out.trans (((below_const w4 _).trans (hb5.mono (by simp))).mono HB4.out.size))
  clear hb5
  go_wp2_with fail
  go_ret
  exact ⟨rfl, HB5.out⟩
end Go.Proofs.YtddbbgjpfdcjfaaDoor
