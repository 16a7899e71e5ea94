/- Chapter 18: the readers' values. -/
import Derived.WalkKit
import Derived.BigQuiet
import Derived.Test.YtpkbmgpbagdalaaTagPass
import Derived.Test.YtpkbmgpbagdalaaTagC
import Derived.Test.YtpkbmgpbagdalaaMem
namespace Go.Proofs.Ytpkbmgpbagdalaa
open Go.RowKit
open Go.Lib (hid)
set_option linter.unusedVariables false

/-- A value in quotes whose quote stands at i: its text, and where what is behind it begins. -/
def quotedV (q : Int) (s : ByteArray) (i : Nat) : ByteArray × Nat :=
  let j := passTo (fun c => c != q) s (i + 1)
  (s.extract (i + 1) j, if j < s.size then j + 1 else j)
/-- A value whose = stands at i. -/
def valueV (s : ByteArray) (i : Nat) : ByteArray × Nat :=
  let k := passTo blankB s (i + 1)
  if k < s.size ∧ (byt s k = 34 ∨ byt s k = 39) then quotedV (byt s k) s k
  else (s.extract k (passTo valC s k), passTo valC s k)

theorem passGo_ge (p : Int → Bool) (s : ByteArray) : ∀ k i, i ≤ passGo p s k i ∧ passGo p s k i ≤ i + k
  | 0, i => by simp [passGo]
  | k + 1, i => by
    unfold passGo
    split
    · have := passGo_ge p s k (i + 1); omega
    · omega
theorem passTo_ge (p : Int → Bool) (s : ByteArray) (i : Nat) : i ≤ passTo p s i := (passGo_ge p s _ _).1
theorem passTo_le (p : Int → Bool) (s : ByteArray) {i : Nat} (h : i ≤ s.size) : passTo p s i ≤ s.size := by
  have := (passGo_ge p s (s.size - i) i).2
  unfold passTo
  omega

theorem grown_alloc (w : World) (o : Obj) (r : Option Nat) : w.grownBy (w.alloc o) r := ⟨rfl, rfl, rfl, by simp, fun k hk _ => Below.heap_alloc _ _ _ hk⟩
theorem grown_drewN (w : World) (n : Nat) (r : Option Nat) : w.grownBy (w.drewN n) r := ⟨rfl, rfl, rfl, Nat.le_refl _, fun _ _ _ => rfl⟩
theorem Bytes.keepAt {w w' : World} {b off : Nat} {s : ByteArray} (h : Lib.Bytes w b off s) (hk : ∀ k, w'.cell? ⟨b, k, none⟩ = w.cell? ⟨b, k, none⟩) : Lib.Bytes w' b off s := fun k hk' => (hk _).trans (h k hk')
theorem cell_alloc2 {w : World} {b g : Nat} {o : Obj} {u : Value} {i : Nat} (k : Nat) (hb : b < w.heap.size) (hg : b ≠ g) : ((w.setCell ⟨g, i, none⟩ u).alloc o).cell? ⟨b, k, none⟩ = w.cell? ⟨b, k, none⟩ := by
  rw [World.cell?_alloc_lt _ _ _ (by simpa [World.setCell] using hb)]
  exact World.cell?_of_block (w := w) (Below.heap_setCell _ _ _ _ hg)
set_option maxRecDepth 100000 in
set_option maxHeartbeats 4000000 in
theorem quoted_any (T : TypeId) (g b off n cap i : Nat) (q : Int) (rest : List Value) (s : ByteArray) (hn : n = s.size) (hi : i < n) (hcap : n ≤ cap) (hc63 : cap ≤ 9223372036854775807) (w : World)
    (hb : b ≠ g) (hbl : b < w.heap.size) (hz : Lib.Bytes w b off s) (hblk : Blk w g T (.slice (some ⟨b, off, none⟩) n cap :: .int .i64 i :: rest).toArray) :
    Calls Try.prog 69 #[.pointer (some ⟨g, 0, none⟩), .int .u8 q] w fun e w' =>
      e = .returned (.string (quotedV q s i).1) ∧ w.grownBy w' (some g) ∧ Blk w' g T (.slice (some ⟨b, off, none⟩) n cap :: .int .i64 ((quotedV q s i).2 : Nat) :: rest).toArray := by
  have hgl := hblk.lt
  have hpass := fun (w1 : World) (x : Nat) (h1 : w1.cell? ⟨x, 0, none⟩ = some (.int .u8 q)) (hxg : x ≠ g) (hxl : x < w1.heap.size) (h2 : b < w1.heap.size) (h3 : Lib.Bytes w1 b off s) (h4 : Blk w1 g T (.slice (some ⟨b, off, none⟩) n cap :: .int .i64 ((i + 1 : Nat) : Int) :: rest).toArray) =>
    pass_any T g b off n cap (i + 1) rest s hn (by omega) hcap hc63 73 #[.pointer (some ⟨x, 0, none⟩)] (fun c => c != q) (fun W => W.cell? ⟨x, 0, none⟩ = some (.int .u8 q)) w1 (fun args w => by kernel_rfl)
      (fun W c hW => quoted1_any c q x W hW) (fun W' hW' => (World.cell?_of_block (hW'.block x hxl (fun e => hxg (Option.some.inj e)))).trans h1) hb h2 h3 h4
  have HPASS := hid hpass
  have HZ := hid hz
  have HBK := hid hblk
  have HN := hid hn
  have c1 := hblk.cell 1
  have fr := hblk.frozen
  simp only [List.getElem?_toArray, List.getElem?_cons_zero, List.getElem?_cons_succ] at c1
  have hi1 : (i : Int) + 1 ≤ 9223372036854775807 := by omega
  clear hpass hz hblk hn
  go_enter Try.func69, Try.ntmps69
  go_wp2_with fail
  have hw0 := HBK.out.set_ 1 (.int .i64 ((i + 1 : Nat) : Int))
  have hbox : Blk ((w.setCell ⟨g, 1, none⟩ (.int .i64 ((i : Int) + 1))).alloc (.cells #[.int .u8 q] 5)) w.heap.size 5 #[.int .u8 q] := by
    have := Blk.new (w.setCell ⟨g, 1, none⟩ (.int .i64 ((i : Int) + 1))) 5 #[.int .u8 q]
    rwa [size_set] at this
  have hsz : ((w.setCell ⟨g, 1, none⟩ (.int .i64 ((i : Int) + 1))).alloc (.cells #[.int .u8 q] 5)).heap.size = w.heap.size + 1 := by simp [World.setCell, World.alloc]
  have hbd : Blk ((w.setCell ⟨g, 1, none⟩ (.int .i64 ((i : Int) + 1))).alloc (.cells #[.int .u8 q] 5)) g T (.slice (some ⟨b, off, none⟩) n cap :: .int .i64 ((i + 1 : Nat) : Int) :: rest).toArray := by
    refine Blk.alloc ?_ _
    simpa using hw0
  refine (HPASS.out _ w.heap.size (hbox.cell 0) (by omega) (by omega) (by omega) (Bytes.keepAt HZ.out fun k => cell_alloc2 k hbl hb) hbd).mono ?_
  clear hw0 hbox hsz hbd
  rintro e w1 ⟨rfl, hG1, hB1⟩
  have HG := hid ((grown_set w g 1 (.int .i64 ((i : Int) + 1))).trans ((grown_alloc _ _ _).trans hG1))
  have hjn := passTo_le (fun c => c != q) s (i := i + 1) (by have := HN.out; omega)
  clear hG1
  have HE : Hid (quotedV q s i = (s.extract (i + 1) (passTo (fun c => c != q) s (i + 1)), if passTo (fun c => c != q) s (i + 1) < s.size then passTo (fun c => c != q) s (i + 1) + 1 else passTo (fun c => c != q) s (i + 1))) := rfl
  generalize passTo (fun c => c != q) s (i + 1) = j at hB1 hjn HE ⊢
  generalize s.extract (i + 1) j = txt at HE ⊢
  have c0 := hB1.cell 0
  have c1 := hB1.cell 1
  have fr := hB1.frozen
  simp only [List.getElem?_toArray, List.getElem?_cons_zero, List.getElem?_cons_succ] at c0 c1
  have hov := fun N => over_any g b off n cap j (w1.drewN N) ⟨c0, c1⟩
  have HOV := hid hov
  have HB := hid hB1
  clear hov hB1
  have hj' := HN.out
  by_cases hlt : j < n
  · have hd : decide (n ≤ j) = false := by simp; omega
    have hj1 : (j : Int) + 1 ≤ 9223372036854775807 := by omega
    rw [hd] at HOV
    have HE2 := hid (show quotedV q s i = (txt, j + 1) by rw [HE.out, if_pos (by omega)])
    clear hd hj' HE
    go_wp2_with fail
    refine (HOV.out 0).mono ?_
    rintro e w2 ⟨rfl, nd, rfl⟩
    go_wp2_with fail
    go_ret
    rw [HE2.out]
    refine ⟨rfl, (HG.out.trans (grown_drewN _ nd _)).trans (grown_set _ _ _ _), ?_⟩
    have h9 := (HB.out.drewN nd).set_ 1 (.int .i64 ((j + 1 : Nat) : Int))
    simpa using h9
  · have hd : decide (n ≤ j) = true := by simp; omega
    rw [hd] at HOV
    have HE2 := hid (show quotedV q s i = (txt, j) by rw [HE.out, if_neg (by omega)])
    clear hd hj' HE
    go_wp2_with fail
    refine (HOV.out 0).mono ?_
    rintro e w2 ⟨rfl, nd, rfl⟩
    go_wp2_with fail
    go_ret
    rw [HE2.out]
    exact ⟨rfl, HG.out.trans (grown_drewN _ nd _), HB.out⟩

set_option maxRecDepth 100000 in
set_option maxHeartbeats 4000000 in
theorem value_any (T : TypeId) (g b off n cap i : Nat) (rest : List Value) (s : ByteArray) (hn : n = s.size) (hi : i < n) (hcap : n ≤ cap) (hc63 : cap ≤ 9223372036854775807) (w : World)
    (hb : b ≠ g) (hbl : b < w.heap.size) (hz : Lib.Bytes w b off s) (hblk : Blk w g T (.slice (some ⟨b, off, none⟩) n cap :: .int .i64 i :: rest).toArray) :
    Calls Try.prog 63 #[.pointer (some ⟨g, 0, none⟩)] w fun e w' =>
      e = .returned (.string (valueV s i).1) ∧ w.grownBy w' (some g) ∧ Blk w' g T (.slice (some ⟨b, off, none⟩) n cap :: .int .i64 ((valueV s i).2 : Nat) :: rest).toArray := by
  have hpass := fun (w1 : World) (h2 : b < w1.heap.size) (h3 : Lib.Bytes w1 b off s) (h4 : Blk w1 g T (.slice (some ⟨b, off, none⟩) n cap :: .int .i64 ((i + 1 : Nat) : Int) :: rest).toArray) =>
    pass_any T g b off n cap (i + 1) rest s hn (by omega) hcap hc63 33 #[] blankB (fun _ => True) w1 (fun args w => by kernel_rfl)
      (fun W c _ => blank_any c W) (fun W' hW' => trivial) hb h2 h3 h4
  have hpass2 := fun (k : Nat) (w1 : World) (hk : k ≤ n) (h2 : b < w1.heap.size) (h3 : Lib.Bytes w1 b off s) (h4 : Blk w1 g T (.slice (some ⟨b, off, none⟩) n cap :: .int .i64 (k : Int) :: rest).toArray) =>
    pass_any T g b off n cap k rest s hn hk hcap hc63 70 #[] valC (fun _ => True) w1 (fun args w => by kernel_rfl)
      (fun W c _ => value1_any c W) (fun W' hW' => trivial) hb h2 h3 h4
  have hquo := fun (q : Int) (k : Nat) (w1 : World) (hk : k < n) (h2 : b < w1.heap.size) (h3 : Lib.Bytes w1 b off s) (h4 : Blk w1 g T (.slice (some ⟨b, off, none⟩) n cap :: .int .i64 (k : Int) :: rest).toArray) =>
    quoted_any T g b off n cap k q rest s hn hk hcap hc63 w1 hb h2 h3 h4
  have HPASS := hid hpass
  have HPASS2 := hid hpass2
  have HQUO := hid hquo
  have HZ := hid hz
  have HBK := hid hblk
  have HN := hid hn
  have c1 := hblk.cell 1
  have fr := hblk.frozen
  simp only [List.getElem?_toArray, List.getElem?_cons_zero, List.getElem?_cons_succ] at c1
  have hi1 : (i : Int) + 1 ≤ 9223372036854775807 := by omega
  clear hpass hpass2 hquo hz hblk hn
  go_enter Try.func63, Try.ntmps63
  go_wp2_with fail
  have hw0 := HBK.out.set_ 1 (.int .i64 ((i + 1 : Nat) : Int))
  have hbd : Blk (w.setCell ⟨g, 1, none⟩ (.int .i64 ((i : Int) + 1))) g T (.slice (some ⟨b, off, none⟩) n cap :: .int .i64 ((i + 1 : Nat) : Int) :: rest).toArray := by
    simpa using hw0
  have hbs : ∀ k, (w.setCell ⟨g, 1, none⟩ (.int .i64 ((i : Int) + 1))).cell? ⟨b, k, none⟩ = w.cell? ⟨b, k, none⟩ := fun k => World.cell?_of_block (w := w) (Below.heap_setCell _ _ _ _ hb)
  refine (HPASS.out _ (by rw [size_set]; exact hbl) (Bytes.keepAt HZ.out hbs) hbd).mono ?_
  clear hw0 hbd hbs
  rintro e w1 ⟨rfl, hG1, hB1⟩
  have HG := hid ((grown_set w g 1 (.int .i64 ((i : Int) + 1))).trans hG1)
  have hjn := passTo_le blankB s (i := i + 1) (by have := HN.out; omega)
  clear hG1
  have HE : Hid (valueV s i = if passTo blankB s (i + 1) < s.size ∧ (byt s (passTo blankB s (i + 1)) = 34 ∨ byt s (passTo blankB s (i + 1)) = 39) then quotedV (byt s (passTo blankB s (i + 1))) s (passTo blankB s (i + 1))
    else (s.extract (passTo blankB s (i + 1)) (passTo valC s (passTo blankB s (i + 1))), passTo valC s (passTo blankB s (i + 1)))) := rfl
  generalize passTo blankB s (i + 1) = j at hB1 hjn HE ⊢
  generalize s.extract (i + 1) j = txt at *
  have c0 := hB1.cell 0
  have c1 := hB1.cell 1
  simp only [List.getElem?_toArray, List.getElem?_cons_zero, List.getElem?_cons_succ] at c0 c1
  have hz1 : Lib.Bytes w1 b off s := Bytes.keepAt HZ.out fun k => World.cell?_of_block (HG.out.block b hbl (fun e => hb (Option.some.inj e)))
  have hbl1 : b < w1.heap.size := Nat.lt_of_lt_of_le hbl HG.out.size
  have HB := hid hB1
  have hj' := HN.out
  by_cases hlt : j < n
  · have hcell := bytes_cell hz1 (i := j) (by omega)
    have hpk := fun N => peek_in g b off n cap j (byt s j) (w1.drewN N) ⟨c0, c1⟩ hlt hcell
    generalize hcb : byt s j = c at *
    have HPK := hid hpk
    have HZ1 := hid hz1
    have hjs : j < s.size := by omega
    clear hpk hcell hz1 hB1 c0 c1 hcb
    by_cases hq : c = 34 ∨ c = 39
    · have HE2 := hid (show valueV s i = quotedV c s j by rw [HE.out, if_pos ⟨hjs, hq⟩])
      clear HE
      have hor : c = 34 ∨ (c ≠ 34 ∧ c = 39) := by omega
      clear hq
      rcases hor with rfl | ⟨hne, rfl⟩
      all_goals
        go_wp2_with fail
        refine (HPK.out 0).mono ?_
        rintro e w2 ⟨rfl, nd, rfl⟩
        go_wp2_with fail
        refine (HQUO.out _ j _ hlt (by simpa using hbl1) (HZ1.out.drewN nd) (HB.out.drewN nd)).mono ?_
        rintro e w3 ⟨rfl, hG3, hB3⟩
        go_wp2_with fail
        go_ret
        rw [HE2.out]
        exact ⟨rfl, (HG.out.trans (grown_drewN _ nd _)).trans hG3, hB3⟩
    · have HE2 := hid (show valueV s i = (s.extract j (passTo valC s j), passTo valC s j) by rw [HE.out, if_neg (fun h => hq h.2)])
      have n34 : c ≠ 34 := fun h => hq (.inl h)
      have n39 : c ≠ 39 := fun h => hq (.inr h)
      have b34 : (c == 34) = false := by simpa using n34
      have b39 : (c == 39) = false := by simpa using n39
      clear HE hq n34 n39
      go_wp2_with fail
      refine (HPK.out 0).mono ?_
      rintro e w2 ⟨rfl, nd, rfl⟩
      go_wp2_with fail
      refine (HPASS2.out j _ (by omega) (by simpa using hbl1) (HZ1.out.drewN nd) (HB.out.drewN nd)).mono ?_
      rintro e w3 ⟨rfl, hG3, hB3⟩
      go_wp2_with fail
      go_ret
      rw [HE2.out]
      exact ⟨rfl, (HG.out.trans (grown_drewN _ nd _)).trans hG3, hB3⟩
  · have hpk := fun N => peek_out g b off n cap j (w1.drewN N) ⟨c0, c1⟩ hlt
    have HPK := hid hpk
    have HZ1 := hid hz1
    have HE2 := hid (show valueV s i = (s.extract j (passTo valC s j), passTo valC s j) by rw [HE.out, if_neg (fun h => hlt (by have := h.1; omega))])
    clear hpk hz1 hB1 c0 c1 HE
    go_wp2_with fail
    refine (HPK.out 0).mono ?_
    rintro e w2 ⟨rfl, nd, rfl⟩
    go_wp2_with fail
    refine (HPASS2.out j _ (by omega) (by simpa using hbl1) (HZ1.out.drewN nd) (HB.out.drewN nd)).mono ?_
    rintro e w3 ⟨rfl, hG3, hB3⟩
    go_wp2_with fail
    go_ret
    rw [HE2.out]
    exact ⟨rfl, (HG.out.trans (grown_drewN _ nd _)).trans hG3, hB3⟩
end Go.Proofs.Ytpkbmgpbagdalaa
