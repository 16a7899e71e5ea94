/- Chapter 18: the reader of a tag whose name begins at a place. -/
import Derived.Test.YtpkbmgpbagdalaaTagR
namespace Go.Proofs.Ytpkbmgpbagdalaa
open Go.RowKit
open Go.Lib (hid)
set_option linter.unusedVariables false

/-- A mark, as it is read. -/
structure Mk where
  kind : Int
  size : Nat
  name : ByteArray
  attrs : List (ByteArray × ByteArray)
  single : Bool
  closed : Bool
/-- Its value, its attributes being those of v. -/
def Mk.val (m : Mk) (v : Value) : Value := .agg #[.int .i64 m.kind, .int .i64 m.size, .string m.name, v, .bool m.single, .bool m.closed]
def namedV (s : ByteArray) (i : Nat) (kd : Int) : Mk :=
  let r := restAt s (passTo nameC s i) []
  ⟨kd, r.at_, lowerB (s.extract i (passTo nameC s i)), r.attrs, r.single, r.closed⟩

theorem owns_base {W : World} {B B' : Nat} {e : TypeId} {k n : Nat} {v : Value} {xs : List Value} (h : W.ownsRow B e k v n xs) (hB : B' ≤ B) : W.ownsRow B' e k v n xs := by
  refine ⟨h.1, ?_⟩
  rcases h.2 with h2 | ⟨g, cap, cur, hv, hg, r⟩
  · exact .inl h2
  · exact .inr ⟨g, cap, cur, hv, by omega, r⟩

set_option maxRecDepth 100000 in
set_option maxHeartbeats 4000000 in
theorem named_any (b off n cap i : Nat) (kd : Int) (s : ByteArray) (hn : n = s.size) (hi : i ≤ n) (hcap : n ≤ cap) (hc63 : cap ≤ 9223372036854775807)
    (hm : n ≤ 1048576) (w : World) (hbB : b < w.heap.size) (hz : Lib.Bytes w b off s) :
    Calls Try.prog 20 #[.slice (some ⟨b, off, none⟩) n cap, .int .i64 i, .int .i64 kd] w fun e w' =>
      ∃ v, e = .returned ((namedV s i kd).val v) ∧ Below w.heap.size w w' ∧ w'.ownsRow w.heap.size 38 2 v (namedV s i kd).attrs.length (atCells (namedV s i kd).attrs) := by
  have HZ := hid hz
  have HN := hid hn
  clear hz hn
  go_enter Try.func20, Try.ntmps20
  go_wp2_with fail
  have hblk0 := Blk.new (w.alloc (.cells #[.int .i64 0, .int .i64 0, .string ⟨#[]⟩, .slice none 0 0, .bool false, .bool false] 26)) 62 (rdr b off n cap i kd 0 ⟨#[]⟩ (.slice none 0 0) false false)
  have hres0 := (Blk.new w 26 #[.int .i64 0, .int .i64 0, .string ⟨#[]⟩, .slice none 0 0, .bool false, .bool false]).alloc (.cells (rdr b off n cap i kd 0 ⟨#[]⟩ (.slice none 0 0) false false) 62)
  have hbel0 := (Below.refl w.heap.size w).alloc (Nat.le_refl _) (.cells #[.int .i64 0, .int .i64 0, .string ⟨#[]⟩, .slice none 0 0, .bool false, .bool false] 26) |>.alloc (by simp) (.cells (rdr b off n cap i kd 0 ⟨#[]⟩ (.slice none 0 0) false false) 62)
  rw [show (w.alloc (.cells #[.int .i64 0, .int .i64 0, .string ⟨#[]⟩, .slice none 0 0, .bool false, .bool false] 26)).heap.size = w.heap.size + 1 by simp] at hblk0
  have hsz0 : ((w.alloc (.cells #[.int .i64 0, .int .i64 0, .string ⟨#[]⟩, .slice none 0 0, .bool false, .bool false] 26)).alloc (.cells (rdr b off n cap i kd 0 ⟨#[]⟩ (.slice none 0 0) false false) 62)).heap.size = w.heap.size + 2 := by simp
  have hz0 := Bytes.keepAt HZ.out fun k => World.cell?_of_block (hbel0.block b hbB)
  simp only [rdr] at hblk0 hres0 hbel0 hsz0 hz0
  generalize ((w.alloc (.cells #[.int .i64 0, .int .i64 0, .string ⟨#[]⟩, .slice none 0 0, .bool false, .bool false] 26)).alloc (.cells #[.slice (some ⟨b, off, none⟩) n cap, .int .i64 i, .int .i64 kd, .int .i64 0, .string ⟨#[]⟩, .slice none 0 0, .bool false, .bool false] 62)) = w1 at *
  refine (pass_any 62 (w.heap.size + 1) b off n cap i _ s HN.out hi hcap hc63 32 #[] nameC (fun _ => True) w1 (fun args w => by kernel_rfl)
      (fun W c _ => named1_any c W) (fun W' hW' => trivial) (by omega) (by omega) hz0 hblk0).mono ?_
  rintro e w2 ⟨rfl, hG2, hB2⟩
  have hres2 := hres0.grown hG2 (fun e => by have := Option.some.inj e; omega)
  have hbel2 := hbel0.trans (below_of_grown hG2 (by omega) (by omega))
  have hj1 := passTo_ge nameC s i
  have hj2 := passTo_le nameC s (i := i) (by have := HN.out; omega)
  have hlx : (s.extract i (passTo nameC s i)).size ≤ 9223372036854775807 := by rw [ByteArray.size_extract]; have := HN.out; omega
  have HE : Hid (namedV s i kd = ⟨kd, (restAt s (passTo nameC s i) []).at_, lowerB (s.extract i (passTo nameC s i)), (restAt s (passTo nameC s i) []).attrs, (restAt s (passTo nameC s i) []).single, (restAt s (passTo nameC s i) []).closed⟩) := rfl
  have hw2 : w1.heap.size ≤ w2.heap.size := hG2.size
  have HB2 := hid (show Blk w2 (w.heap.size + 1) 62 (rdr b off n cap (passTo nameC s i) kd 0 ⟨#[]⟩ (.slice none 0 0) false false) from hB2)
  generalize passTo nameC s i = j at *
  generalize s.extract i j = txt at *
  have HRES2 := hid hres2
  have HBEL2 := hid hbel2
  have HLW := hid (fun W => lower_any txt hlx W)
  clear hblk0 hres0 hbel0 hz0 hG2 hB2 hres2 hbel2 hlx
  go_wp2_with fail
  refine (HLW.out _).mono ?_
  rintro e w3 ⟨rfl, hb3⟩
  have hB3 := HB2.out.below hb3 HB2.out.lt
  have c4 := hB3.cell 4
  have fr3 := hB3.frozen
  simp only [rdr, List.getElem?_toArray, List.getElem?_cons_zero, List.getElem?_cons_succ] at c4
  have HB3 := hid hB3
  have HRES3 := hid (HRES2.out.below hb3 HRES2.out.lt)
  have HBEL3 := hid (HBEL2.out.trans (hb3.mono (by omega : w.heap.size ≤ w2.heap.size)))
  have hw3 := hb3.size
  clear hB3 hb3 HB2 HRES2 HBEL2
  go_wp2_with fail
  clear c4 fr3
  have hg4 : Blk (w3.setCell ⟨w.heap.size + 1, 4, none⟩ (.string (lowerB txt))) (w.heap.size + 1) 62 (rdr b off n cap j kd 0 (lowerB txt) (.slice none 0 0) false false) := by
    have := HB3.out.set_ 4 (.string (lowerB txt))
    simpa [rdr] using this
  have hres4 : Blk (w3.setCell ⟨w.heap.size + 1, 4, none⟩ (.string (lowerB txt))) w.heap.size 26 #[.int .i64 0, .int .i64 0, .string ⟨#[]⟩, .slice none 0 0, .bool false, .bool false] := HRES3.out.far (by simp) _
  have hbel4 : Below w.heap.size w (w3.setCell ⟨w.heap.size + 1, 4, none⟩ (.string (lowerB txt))) := HBEL3.out.setCell (p := ⟨w.heap.size + 1, 4, none⟩) (by simp) _
  have hsz4 : (w3.setCell ⟨w.heap.size + 1, 4, none⟩ (.string (lowerB txt))).heap.size = w3.heap.size := size_set _ _ _
  generalize w3.setCell ⟨w.heap.size + 1, 4, none⟩ (.string (lowerB txt)) = w4 at *
  refine (rest_any (w.heap.size + 1) (w.heap.size + 1) b off n cap j kd 0 (lowerB txt) (.slice none 0 0) s HN.out (by have := HN.out; omega) hcap hc63 hm w4 (by omega) (Nat.le_refl _) (Bytes.keepAt HZ.out fun k => World.cell?_of_block (hbel4.block b hbB)) hg4 ⟨rfl, .inl ⟨rfl, rfl⟩⟩).mono ?_
  rintro e w5 ⟨rfl, hb5, v5, hg5, ho5⟩
  have HRES5 := hid (hres4.below hb5 (by omega))
  have HBEL5 := hid (hbel4.trans (hb5.mono (by omega)))
  have hlt5 := hg5.lt
  generalize restAt s j [] = R at *
  obtain ⟨a5, cp5, rfl, _⟩ := owns_form ho5
  have c1 := hg5.cell 1
  have c2 := hg5.cell 2
  have c3 := hg5.cell 3
  have c4 := hg5.cell 4
  have c5 := hg5.cell 5
  have c6 := hg5.cell 6
  have c7 := hg5.cell 7
  have fr5 := hg5.frozen
  simp only [rdr, List.getElem?_toArray, List.getElem?_cons_zero, List.getElem?_cons_succ] at c1 c2 c3 c4 c5 c6 c7
  have HG5 := hid hg5
  have HO5 := hid ho5
  have r0 := HRES5.out.cell 0
  have r1 := HRES5.out.cell 1
  have r2 := HRES5.out.cell 2
  have r3 := HRES5.out.cell 3
  have r4 := HRES5.out.cell 4
  have r5 := HRES5.out.cell 5
  have frr := HRES5.out.frozen
  simp only [List.getElem?_toArray, List.getElem?_cons_zero, List.getElem?_cons_succ] at r0 r1 r2 r3 r4 r5
  clear hg4 hres4 hbel4 hg5 ho5 hb5
  go_wp2_with fail
  have hne : w.heap.size ≠ w.heap.size + 1 := by omega
  have hfin := (((((((HRES5.out.far (p := ⟨w.heap.size + 1, 3, none⟩) hne (.int .i64 R.at_)).set_ 0 (.int .i64 kd)).set_ 1 (.int .i64 R.at_)).set_ 2 (.string (lowerB txt))).set_ 3 (.slice a5 R.attrs.length cp5)).set_ 4 (.bool R.single)).set_ 5 (.bool R.closed))
  have hbf := ((((((HBEL5.out.setCell (p := ⟨w.heap.size + 1, 3, none⟩) (by show _ ≤ _; simp) (.int .i64 R.at_)).setCell (p := ⟨w.heap.size, 0, none⟩) (Nat.le_refl _) (.int .i64 kd)).setCell (p := ⟨w.heap.size, 1, none⟩) (Nat.le_refl _) (.int .i64 R.at_)).setCell (p := ⟨w.heap.size, 2, none⟩) (Nat.le_refl _) (.string (lowerB txt))).setCell (p := ⟨w.heap.size, 3, none⟩) (Nat.le_refl _) (.slice a5 R.attrs.length cp5)).setCell (p := ⟨w.heap.size, 4, none⟩) (Nat.le_refl _) (.bool R.single)).setCell (p := ⟨w.heap.size, 5, none⟩) (Nat.le_refl _) (.bool R.closed)
  have hrg : ∀ k, (Value.slice a5 R.attrs.length cp5).ownBlock = some k → some (w.heap.size + 1) ≠ some k := fun k hk e => own_blk_ne HO5.out HG5.out (by decide) (hk.trans e.symm)
  have hrr : ∀ k, (Value.slice a5 R.attrs.length cp5).ownBlock = some k → some w.heap.size ≠ some k := fun k hk e => own_blk_ne HO5.out HRES5.out (by decide) (hk.trans e.symm)
  have hof := own_kept (own_kept (own_kept (own_kept (own_kept (own_kept (own_kept HO5.out (grown_set _ (w.heap.size + 1) 3 (.int .i64 R.at_)) hrg) (grown_set _ w.heap.size 0 (.int .i64 kd)) hrr) (grown_set _ w.heap.size 1 (.int .i64 R.at_)) hrr) (grown_set _ w.heap.size 2 (.string (lowerB txt))) hrr) (grown_set _ w.heap.size 3 (.slice a5 R.attrs.length cp5)) hrr) (grown_set _ w.heap.size 4 (.bool R.single)) hrr) (grown_set _ w.heap.size 5 (.bool R.closed)) hrr
  (try simp only [Exit.inBlock, Exit.then])
  rw [HE.out]
  simp only [List.setIfInBounds_toArray, List.set] at hfin
  exact bodyPost_ret (v := .agg #[.int .i64 kd, .int .i64 R.at_, .string (lowerB txt), .slice a5 R.attrs.length cp5, .bool R.single, .bool R.closed]) (results_cell_row rfl _ _ w.heap.size _ _ _ _ rfl hfin Try.underlying26 rfl (by kernel_rfl)) rfl ⟨_, rfl, hbf, owns_base hof (by omega)⟩
end Go.Proofs.Ytpkbmgpbagdalaa
