/- Chapter 18: marks that go up to some bytes: the walk. -/
import Derived.Test.YtpkbmgpbagdalaaTagU
namespace Go.Proofs.Ytpkbmgpbagdalaa
open Go.RowKit
open Go.Lib (hid)
set_option linter.unusedVariables false

def offIf (cap i off : Nat) : Nat := if cap = i then off else off + i
theorem slice_tail (b off n cap i : Nat) (hi : i ≤ n) (hcap : n ≤ cap) (W : World) : (Instr.slice 22 (.slice (some ⟨b, off, none⟩) n cap) (some (.int .i64 i)) none none).run Try.prog W = .ok (.slice (some ⟨b, offIf cap i off, none⟩) (n - i) (cap - i)) W := by
  rw [run_slice_l (P := Try.prog) W 22 _ n cap rfl .i64 i (by omega) (by omega)]
  have hs : (sizeOf (Try.prog.elem 22)).run Try.prog W = .ok 1 W := by go_simp
  rw [hs]
  unfold offIf
  by_cases hc : cap = i
  · subst hc
    simp [Result.andThen, sliced]
  · simp only [Result.andThen, sliced, Int.toNat_natCast, if_neg hc, Option.map_some, Nat.mul_one]
    simp [Addr.add]

theorem bytes_tail {w : World} {b off n cap i : Nat} {s : ByteArray} (hn : n = s.size) (hcap : n ≤ cap) (hz : Lib.Bytes w b off s) : ∀ j, j < n - i → w.cell? ⟨b, offIf cap i off + j, none⟩ = some (.int .u8 (byt (s.extract i s.size) j)) := by
  intro j hj
  have hne : ¬ cap = i := by omega
  unfold offIf
  rw [if_neg hne, Nat.add_assoc, bytes_cell hz (i := i + j) (by omega)]
  have : byt (s.extract i s.size) j = byt s (i + j) := by
    unfold byt
    simp only [ByteArray.data_extract, Array.getD_eq_getD_getElem?, Array.getElem?_extract]
    have : s.data.size = s.size := rfl
    rw [if_pos (by omega)]
  rw [this]

theorem add_pl (b o j : Nat) : (Addr.add ⟨b, o, none⟩ j) = ⟨b, o + j, none⟩ := by unfold Addr.add; split <;> simp_all

def tag0 : Array Value := #[.int .i64 0, .int .i64 0, .string ⟨#[]⟩, .slice none 0 0, .bool false, .bool false]

set_option maxRecDepth 100000 in
set_option maxHeartbeats 4000000 in
theorem upTo_any (b off n cap i : Nat) (kd : Int) (m : Int) (e s : ByteArray) (hn : n = s.size) (hi : i ≤ n) (hcap : n ≤ cap) (hc63 : cap ≤ 9223372036854775807) (he : 0 < e.size) (he2 : e.size ≤ 1000)
    (hm : n ≤ 1048576) (w : World) (hbB : b < w.heap.size) (hz : Lib.Bytes w b off s) (hml : w.cell? ⟨0, 0, none⟩ = some (.int .i64 m)) :
    Calls Try.prog 18 #[.slice (some ⟨b, off, none⟩) n cap, .int .i64 i, .int .i64 kd, .string e] w fun x w' =>
      x = .returned ((upToV s i kd e).val (.slice none 0 0)) ∧ Below w.heap.size w w' := by
  have h0l : 0 < w.heap.size := by omega
  have hsl := fun W => slice_tail b off n cap i hi hcap W
  have HZ := hid hz
  have HN := hid hn
  have HML := hid hml
  have hk := fun W => Lib.run_convert_string_bytes (P := Try.prog) W 9 22 5 e Try.underlying9 Try.underlying22 Try.underlying5
  have HU := hid (upAt_index s e i (by omega) he)
  clear hz hn hml
  go_enter Try.func18, Try.ntmps18
  go_wp2_with fail
  have hb0 := (Below.refl w.heap.size w).alloc (Nat.le_refl _) (.cells tag0 26)
  have hr0 := Blk.new w 26 tag0
  have hs0 : (w.alloc (.cells tag0 26)).heap.size = w.heap.size + 1 := by simp
  simp only [tag0] at hb0 hr0 hs0
  generalize w.alloc (.cells #[.int .i64 0, .int .i64 0, .string ⟨#[]⟩, .slice none 0 0, .bool false, .bool false] 26) = w1 at *
  have hb1 := bytesWorld_below w1 5 e
  have hz1 := bytesWorld_new w1 5 e
  have hl1 := Lib.bytesWorld_size w1 5 e
  rw [hs0] at hz1 hl1
  generalize Lib.bytesWorld w1 5 e = w2 at *
  generalize grownCap w1 e.size 0 5 = ecap at *
  have hb2 : Below w.heap.size w w2 := hb0.trans (hb1.mono (by omega))
  have hz2 : Lib.Bytes w2 b off s := Bytes.keepAt HZ.out fun k => World.cell?_of_block (hb2.block b hbB)
  have hml2 : w2.cell? ⟨0, 0, none⟩ = some (.int .i64 m) := (hb2.cell (p := ⟨0, 0, none⟩) h0l).trans HML.out
  have hr2 : Blk w2 w.heap.size 26 tag0 := hr0.below hb1 (by omega)
  refine (index_any ⟨b, offIf cap i off, none⟩ ⟨w.heap.size + 1, 0, none⟩ (n - i) (cap - i) e.size ecap (s.extract i s.size) e m w2 (by rw [ByteArray.size_extract]; have := HN.out; omega) rfl
    (fun j hj => by rw [add_pl]; exact bytes_tail HN.out hcap hz2 j hj) (fun j hj => by rw [add_pl]; exact bytes_cell hz1 hj) (by omega) (by omega) (by omega) hml2).mono ?_
  rintro x w3 ⟨rfl, nd, rfl⟩
  have r0 := hr2.cell 0
  have r1 := hr2.cell 1
  have r2 := hr2.cell 2
  have r3 := hr2.cell 3
  have r4 := hr2.cell 4
  have r5 := hr2.cell 5
  have frr := hr2.frozen
  simp only [tag0, List.getElem?_toArray, List.getElem?_cons_zero, List.getElem?_cons_succ] at r0 r1 r2 r3 r4 r5
  have HR2 := hid hr2
  have HB2 := hid hb2
  have hfin := fun (z : Nat) (cl : Bool) => ((((((hr2.drewN nd).set_ 0 (.int .i64 kd)).set_ 1 (.int .i64 z)).set_ 2 (.string ⟨#[]⟩)).set_ 3 (.slice none 0 0)).set_ 4 (.bool false)).set_ 5 (.bool cl)
  have hbf := fun (z : Nat) (cl : Bool) => ((((((hb2.trans (below_drewN _ w2 nd)).setCell (p := ⟨w.heap.size, 0, none⟩) (Nat.le_refl _) (.int .i64 kd)).setCell (p := ⟨w.heap.size, 1, none⟩) (Nat.le_refl _) (.int .i64 z)).setCell (p := ⟨w.heap.size, 2, none⟩) (Nat.le_refl _) (.string ⟨#[]⟩)).setCell (p := ⟨w.heap.size, 3, none⟩) (Nat.le_refl _) (.slice none 0 0)).setCell (p := ⟨w.heap.size, 4, none⟩) (Nat.le_refl _) (.bool false)).setCell (p := ⟨w.heap.size, 5, none⟩) (Nat.le_refl _) (.bool cl)
  have HFIN := hid hfin
  have HBF := hid hbf
  clear hb0 hr0 hb1 hz1 hb2 hz2 hml2 hr2 hfin hbf hsl hk
  rcases HU.out with ⟨h1, h2⟩ | ⟨k, h1, h2, h3⟩
  · rw [h1]
    have HE : Hid (upToV s i kd e = ⟨kd, n, ⟨#[]⟩, [], false, false⟩) := by show _ = _; unfold upToV; rw [h2, HN.out]
    clear h1 h2 HU
    go_wp2_with fail
    (try simp only [Exit.inBlock, Exit.then])
    rw [HE.out]
    have hf := HFIN.out n false
    simp only [tag0, List.setIfInBounds_toArray, List.set] at hf
    exact bodyPost_ret (v := .agg #[.int .i64 kd, .int .i64 n, .string ⟨#[]⟩, .slice none 0 0, .bool false, .bool false]) (results_cell_row rfl _ _ w.heap.size _ _ _ _ rfl hf Try.underlying26 rfl (by kernel_rfl)) rfl ⟨rfl, HBF.out n false⟩
  · rw [h1]
    have HE : Hid (upToV s i kd e = ⟨kd, i + k + e.size, ⟨#[]⟩, [], false, true⟩) := by show _ = _; unfold upToV; rw [h2]
    have hn2 := HN.out
    have hk1 : (i : Int) + (k : Int) ≤ 9223372036854775807 := by omega
    have hk2 : (i : Int) + (k : Int) + (e.size : Int) ≤ 9223372036854775807 := by omega
    clear h1 h2 HU hn2
    go_wp2_with fail
    (try simp only [Exit.inBlock, Exit.then])
    rw [HE.out]
    have hf := HFIN.out (i + k + e.size) true
    simp only [tag0, List.setIfInBounds_toArray, List.set] at hf
    have hbb := HBF.out (i + k + e.size) true
    simp only [Int.natCast_add] at hf hbb
    exact bodyPost_ret (v := .agg #[.int .i64 kd, .int .i64 ((i : Int) + (k : Int) + (e.size : Int)), .string ⟨#[]⟩, .slice none 0 0, .bool false, .bool true]) (results_cell_row rfl _ _ w.heap.size _ _ _ _ rfl hf Try.underlying26 rfl (by kernel_rfl)) rfl ⟨by unfold Mk.val; simp, hbb⟩
end Go.Proofs.Ytpkbmgpbagdalaa
