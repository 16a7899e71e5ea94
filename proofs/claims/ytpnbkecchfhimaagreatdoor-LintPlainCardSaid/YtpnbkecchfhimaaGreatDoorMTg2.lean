/- Texts of an earlier chapter (Tg), merged by a program of mine. -/
import Derived.Test.YtpnbkecchfhimaaGreatDoorBase
import Derived.Test.YtpnbkecchfhimaaGreatDoorMem
import Derived.Test.YtpnbkecchfhimaaGreatDoorWords
import Derived.Test.YtpnbkecchfhimaaGreatDoorOpen
import Derived.Test.YtpnbkecchfhimaaGreatDoorByt
import Derived.Test.YtpnbkecchfhimaaGreatDoorInv
import Derived.Test.YtpnbkecchfhimaaGreatDoorTkShelf
import Derived.Test.YtpnbkecchfhimaaGreatDoorMTg1
import Derived.BigQuiet
import Derived.BigRegion
import Derived.Deep.DeepCutAuto
import Derived.Deep.LoopGhost
import Derived.Deep.QuietTactic
import Derived.Deep.RegionWith
import Derived.Laws.CopyOwn
import Derived.Laws.Tables
import Derived.Lib.ConvBytes
import Derived.Lib.IndexMore
import Derived.Lib.SlBytesConst
import Derived.Lib.SlBytesRow
import Derived.Maps.AppendAt
import Derived.WalkKit
/- out of TagN -/
namespace Go.Proofs.YtpnbkecchfhimaaGreatDoor
set_option maxRecDepth 100000
open Go.RowKit
open Go.Lib (hid)
set_option linter.unusedVariables false

/-- A mark, as it is read. -/
structure Mk where
  kind : Int
  size : Nat
  name : ByteArray
  attrs : List (ByteArray × ByteArray)
  single : Bool
  closed : Bool
/-- Its value, its attributes being those of v. -/
def Mk.val (m : Mk) (v : Value) : Value := .agg #[.int .i64 m.kind, .int .i64 m.size, .string m.name, v, .bool m.single, .bool m.closed]
def namedV (s : ByteArray) (i : Nat) (kd : Int) : Mk :=
  let r := restAt s (passTo nameC s i) []
  ⟨kd, r.at_, lowerB (s.extract i (passTo nameC s i)), r.attrs, r.single, r.closed⟩

set_option maxRecDepth 100000 in
set_option maxHeartbeats 4000000 in
theorem named_any (b off n cap i : Nat) (kd : Int) (s : ByteArray) (hn : n = s.size) (hi : i ≤ n) (hcap : n ≤ cap) (hc63 : cap ≤ 9223372036854775807)
    (hm : n ≤ 1048576) (w : World) (hbB : b < w.heap.size) (hz : Lib.Bytes w b off s) :
    Calls Tryz.prog 94 #[.slice (some ⟨b, off, none⟩) n cap, .int .i64 i, .int .i64 kd] w fun e w' =>
      ∃ v, e = .returned ((namedV s i kd).val v) ∧ Below w.heap.size w w' ∧ w'.ownsRow w.heap.size 307 2 v (namedV s i kd).attrs.length (atCells (namedV s i kd).attrs) := by
  have HZ := hid hz
  have HN := hid hn
  clear hz hn
  go_enter Tryz.func94, Tryz.ntmps94
  go_wp2_with fail
  have hblk0 := Blk.new (w.alloc (.cells #[.int .i64 0, .int .i64 0, .string ⟨#[]⟩, .slice none 0 0, .bool false, .bool false] 110)) 206 (rdr b off n cap i kd 0 ⟨#[]⟩ (.slice none 0 0) false false)
  have hres0 := (Blk.new w 110 #[.int .i64 0, .int .i64 0, .string ⟨#[]⟩, .slice none 0 0, .bool false, .bool false]).alloc (.cells (rdr b off n cap i kd 0 ⟨#[]⟩ (.slice none 0 0) false false) 206)
  have hbel0 := (Below.refl w.heap.size w).alloc (Nat.le_refl _) (.cells #[.int .i64 0, .int .i64 0, .string ⟨#[]⟩, .slice none 0 0, .bool false, .bool false] 110) |>.alloc (by simp) (.cells (rdr b off n cap i kd 0 ⟨#[]⟩ (.slice none 0 0) false false) 206)
  rw [show (w.alloc (.cells #[.int .i64 0, .int .i64 0, .string ⟨#[]⟩, .slice none 0 0, .bool false, .bool false] 110)).heap.size = w.heap.size + 1 by simp] at hblk0
  have hsz0 : ((w.alloc (.cells #[.int .i64 0, .int .i64 0, .string ⟨#[]⟩, .slice none 0 0, .bool false, .bool false] 110)).alloc (.cells (rdr b off n cap i kd 0 ⟨#[]⟩ (.slice none 0 0) false false) 206)).heap.size = w.heap.size + 2 := by simp
  have hz0 := Bytes.keepAt HZ.out fun k => World.cell?_of_block (hbel0.block b hbB)
  simp only [rdr] at hblk0 hres0 hbel0 hsz0 hz0
  generalize ((w.alloc (.cells #[.int .i64 0, .int .i64 0, .string ⟨#[]⟩, .slice none 0 0, .bool false, .bool false] 110)).alloc (.cells #[.slice (some ⟨b, off, none⟩) n cap, .int .i64 i, .int .i64 kd, .int .i64 0, .string ⟨#[]⟩, .slice none 0 0, .bool false, .bool false] 206)) = w1 at *
  refine (pass_any 206 (w.heap.size + 1) b off n cap i _ s HN.out hi hcap hc63 132 #[] nameC (fun _ => True) w1 (fun args w => by kernel_rfl)
      (fun W c _ => named1_any c W) (fun W' hW' => trivial) (by omega) (by omega) hz0 hblk0).mono ?_
  rintro e w2 ⟨rfl, hG2, hB2⟩
  have hres2 := hres0.grown hG2 (fun e => by have := Option.some.inj e; omega)
  have hbel2 := hbel0.trans (below_of_grown hG2 (by omega) (by omega))
  have hj1 := passTo_ge nameC s i
  have hj2 := passTo_le nameC s (i := i) (by have := HN.out; omega)
  have hlx : (s.extract i (passTo nameC s i)).size ≤ 9223372036854775807 := by rw [ByteArray.size_extract]; have := HN.out; omega
  have HE : Hid (namedV s i kd = ⟨kd, (restAt s (passTo nameC s i) []).at_, lowerB (s.extract i (passTo nameC s i)), (restAt s (passTo nameC s i) []).attrs, (restAt s (passTo nameC s i) []).single, (restAt s (passTo nameC s i) []).closed⟩) := rfl
  have hw2 : w1.heap.size ≤ w2.heap.size := hG2.size
  have HB2 := hid (show Blk w2 (w.heap.size + 1) 206 (rdr b off n cap (passTo nameC s i) kd 0 ⟨#[]⟩ (.slice none 0 0) false false) from hB2)
  generalize passTo nameC s i = j at *
  generalize s.extract i j = txt at *
  have HRES2 := hid hres2
  have HBEL2 := hid hbel2
  have HLW := hid (fun W => lower_any txt hlx W)
  clear hblk0 hres0 hbel0 hz0 hG2 hB2 hres2 hbel2 hlx
  go_wp2_with fail
  refine (HLW.out _).mono ?_
  rintro e w3 ⟨rfl, hb3⟩
  have hB3 := HB2.out.below hb3 HB2.out.lt
  have c4 := hB3.cell 4
  have fr3 := hB3.frozen
  simp only [rdr, List.getElem?_toArray, List.getElem?_cons_zero, List.getElem?_cons_succ] at c4
  have HB3 := hid hB3
  have HRES3 := hid (HRES2.out.below hb3 HRES2.out.lt)
  have HBEL3 := hid (HBEL2.out.trans (hb3.mono (by omega : w.heap.size ≤ w2.heap.size)))
  have hw3 := hb3.size
  clear hB3 hb3 HB2 HRES2 HBEL2
  go_wp2_with fail
  clear c4 fr3
  have hg4 : Blk (w3.setCell ⟨w.heap.size + 1, 4, none⟩ (.string (lowerB txt))) (w.heap.size + 1) 206 (rdr b off n cap j kd 0 (lowerB txt) (.slice none 0 0) false false) := by
    have := HB3.out.set_ 4 (.string (lowerB txt))
    simpa [rdr] using this
  have hres4 : Blk (w3.setCell ⟨w.heap.size + 1, 4, none⟩ (.string (lowerB txt))) w.heap.size 110 #[.int .i64 0, .int .i64 0, .string ⟨#[]⟩, .slice none 0 0, .bool false, .bool false] := HRES3.out.far (by simp) _
  have hbel4 : Below w.heap.size w (w3.setCell ⟨w.heap.size + 1, 4, none⟩ (.string (lowerB txt))) := HBEL3.out.setCell (p := ⟨w.heap.size + 1, 4, none⟩) (by simp) _
  have hsz4 : (w3.setCell ⟨w.heap.size + 1, 4, none⟩ (.string (lowerB txt))).heap.size = w3.heap.size := size_set _ _ _
  generalize w3.setCell ⟨w.heap.size + 1, 4, none⟩ (.string (lowerB txt)) = w4 at *
  refine (rest_any (w.heap.size + 1) (w.heap.size + 1) b off n cap j kd 0 (lowerB txt) (.slice none 0 0) s HN.out (by have := HN.out; omega) hcap hc63 hm w4 (by omega) (Nat.le_refl _) (Bytes.keepAt HZ.out fun k => World.cell?_of_block (hbel4.block b hbB)) hg4 ⟨rfl, .inl ⟨rfl, rfl⟩⟩).mono ?_
  rintro e w5 ⟨rfl, hb5, v5, hg5, ho5⟩
  have HRES5 := hid (hres4.below hb5 (by omega))
  have HBEL5 := hid (hbel4.trans (hb5.mono (by omega)))
  have hlt5 := hg5.lt
  generalize restAt s j [] = R at *
  obtain ⟨a5, cp5, rfl, _⟩ := owns_form ho5
  have c1 := hg5.cell 1
  have c2 := hg5.cell 2
  have c3 := hg5.cell 3
  have c4 := hg5.cell 4
  have c5 := hg5.cell 5
  have c6 := hg5.cell 6
  have c7 := hg5.cell 7
  have fr5 := hg5.frozen
  simp only [rdr, List.getElem?_toArray, List.getElem?_cons_zero, List.getElem?_cons_succ] at c1 c2 c3 c4 c5 c6 c7
  have HG5 := hid hg5
  have HO5 := hid ho5
  have r0 := HRES5.out.cell 0
  have r1 := HRES5.out.cell 1
  have r2 := HRES5.out.cell 2
  have r3 := HRES5.out.cell 3
  have r4 := HRES5.out.cell 4
  have r5 := HRES5.out.cell 5
  have frr := HRES5.out.frozen
  simp only [List.getElem?_toArray, List.getElem?_cons_zero, List.getElem?_cons_succ] at r0 r1 r2 r3 r4 r5
  clear hg4 hres4 hbel4 hg5 ho5 hb5
  go_wp2_with fail
  have hne : w.heap.size ≠ w.heap.size + 1 := by omega
  have hfin := (((((((HRES5.out.far (p := ⟨w.heap.size + 1, 3, none⟩) hne (.int .i64 R.at_)).set_ 0 (.int .i64 kd)).set_ 1 (.int .i64 R.at_)).set_ 2 (.string (lowerB txt))).set_ 3 (.slice a5 R.attrs.length cp5)).set_ 4 (.bool R.single)).set_ 5 (.bool R.closed))
  have hbf := ((((((HBEL5.out.setCell (p := ⟨w.heap.size + 1, 3, none⟩) (by show _ ≤ _; simp) (.int .i64 R.at_)).setCell (p := ⟨w.heap.size, 0, none⟩) (Nat.le_refl _) (.int .i64 kd)).setCell (p := ⟨w.heap.size, 1, none⟩) (Nat.le_refl _) (.int .i64 R.at_)).setCell (p := ⟨w.heap.size, 2, none⟩) (Nat.le_refl _) (.string (lowerB txt))).setCell (p := ⟨w.heap.size, 3, none⟩) (Nat.le_refl _) (.slice a5 R.attrs.length cp5)).setCell (p := ⟨w.heap.size, 4, none⟩) (Nat.le_refl _) (.bool R.single)).setCell (p := ⟨w.heap.size, 5, none⟩) (Nat.le_refl _) (.bool R.closed)
  have hrg : ∀ k, (Value.slice a5 R.attrs.length cp5).ownBlock = some k → some (w.heap.size + 1) ≠ some k := fun k hk e => own_blk_ne HO5.out HG5.out (by decide) (hk.trans e.symm)
  have hrr : ∀ k, (Value.slice a5 R.attrs.length cp5).ownBlock = some k → some w.heap.size ≠ some k := fun k hk e => own_blk_ne HO5.out HRES5.out (by decide) (hk.trans e.symm)
  have hof := own_kept (own_kept (own_kept (own_kept (own_kept (own_kept (own_kept HO5.out (grown_set _ (w.heap.size + 1) 3 (.int .i64 R.at_)) hrg) (grown_set _ w.heap.size 0 (.int .i64 kd)) hrr) (grown_set _ w.heap.size 1 (.int .i64 R.at_)) hrr) (grown_set _ w.heap.size 2 (.string (lowerB txt))) hrr) (grown_set _ w.heap.size 3 (.slice a5 R.attrs.length cp5)) hrr) (grown_set _ w.heap.size 4 (.bool R.single)) hrr) (grown_set _ w.heap.size 5 (.bool R.closed)) hrr
  (try simp only [Exit.inBlock, Exit.then])
  rw [HE.out]
  simp only [List.setIfInBounds_toArray, List.set] at hfin
  exact bodyPost_ret (v := .agg #[.int .i64 kd, .int .i64 R.at_, .string (lowerB txt), .slice a5 R.attrs.length cp5, .bool R.single, .bool R.closed]) (results_cell_row rfl _ _ w.heap.size _ _ _ _ rfl hfin Tryz.underlying110 rfl (by kernel_rfl)) rfl ⟨_, rfl, hbf, owns_base hof (by omega)⟩

end Go.Proofs.YtpnbkecchfhimaaGreatDoor

/- out of TagU -/
namespace Go.Proofs.YtpnbkecchfhimaaGreatDoor
set_option maxRecDepth 100000
open Go.RowKit
open Go.Lib (hid)
set_option linter.unusedVariables false

theorem index_any (a1 a2 : Addr) (n c1 k c2 : Nat) (x y : ByteArray) (m : Int) (w : World) (hn : x.size = n) (hk : y.size = k)
    (h1 : ∀ i, i < n → w.cell? (a1.add i) = some (.int .u8 (byt x i))) (h2 : ∀ i, i < k → w.cell? (a2.add i) = some (.int .u8 (byt y i))) (hcap : n ≤ c1) (hs : n < 4294967281) (hk63 : k ≤ 9223372036854775807)
    (hm : w.cell? ⟨0, 0, none⟩ = some (.int .i64 m)) :
    Calls Tryz.prog 129 #[.slice (some a1) n c1, .slice (some a2) k c2] w fun e w' => e = .returned (.int .i64 (Lib.index x.data.toList y.data.toList)) ∧ ∃ q, w' = w.drewN q := by
  have h := Any.bytes_Index_at Tryz.laysM185.ton185 a1 a2 n c1 k c2 (intsOf x) (intsOf y) m w (by rw [intsOf_len, hn]) (by rw [intsOf_len, hk]) (intsOf_rng x) (intsOf_rng y)
    (fun i hi => by rw [h1 i hi, intsOf_get]) (fun i hi => by rw [h2 i hi, intsOf_get]) hcap hs hk63 hm
  rw [intsOf_bytes, intsOf_bytes] at h
  exact h

/-- Does e stand at i? -/
def occ (s e : ByteArray) (i : Nat) : Bool := (s.extract i (i + e.size)).toList == e.toList
def upGo (s e : ByteArray) : Nat → Nat → Option Nat
  | 0, _ => none
  | f + 1, i => if i + e.size ≤ s.size then (if occ s e i = true then some (i + e.size) else upGo s e f (i + 1)) else none
def upAt (s e : ByteArray) (i : Nat) : Option Nat := upGo s e (s.size + 1 - i) i
def upToV (s : ByteArray) (i : Nat) (kd : Int) (e : ByteArray) : Mk :=
  match upAt s e i with
  | some z => ⟨kd, z, ⟨#[]⟩, [], false, true⟩
  | none => ⟨kd, s.size, ⟨#[]⟩, [], false, false⟩

theorem upGo_none (s e : ByteArray) : ∀ f i, (∀ j, i ≤ j → j + e.size ≤ s.size → occ s e j = false) → upGo s e f i = none
  | 0, i, _ => rfl
  | f + 1, i, h => by
    unfold upGo
    split
    · rename_i hi
      rw [if_neg (by rw [h i (Nat.le_refl _) hi]; decide)]
      exact upGo_none s e f (i + 1) fun j hj => h j (by omega)
    · rfl
theorem upGo_some (s e : ByteArray) (z : Nat) (hz : z + e.size ≤ s.size) (ho : occ s e z = true) : ∀ f i, i ≤ z → z < i + f → (∀ j, i ≤ j → j < z → occ s e j = false) → upGo s e f i = some (z + e.size)
  | 0, i, h1, h2, _ => by omega
  | f + 1, i, h1, h2, h => by
    unfold upGo
    rw [if_pos (by omega)]
    by_cases he : i = z
    · subst he
      rw [if_pos ho]
    · rw [if_neg (by rw [h i (Nat.le_refl _) (by omega)]; decide)]
      exact upGo_some s e z hz ho f (i + 1) (by omega) (by omega) fun j hj => h j (by omega)

theorem occ_at (s e : ByteArray) (i j : Nat) (hj : i + j + e.size ≤ s.size) : occ s e (i + j) = Lib.occAt (s.extract i s.size).data.toList e.data.toList j := by
  unfold occ
  rw [← Lib.occ_of_piece s e (i + j) hj]
  unfold Lib.occAt
  rw [Lib.extract_to_end, List.drop_drop]

/-- What the search of the library tells. -/
theorem upAt_index (s e : ByteArray) (i : Nat) (hi : i ≤ s.size) (he : 0 < e.size) :
    (Lib.index (s.extract i s.size).data.toList e.data.toList = -1 ∧ upAt s e i = none) ∨
    (∃ k : Nat, Lib.index (s.extract i s.size).data.toList e.data.toList = k ∧ upAt s e i = some (i + k + e.size) ∧ i + k + e.size ≤ s.size) := by
  have hl : (s.extract i s.size).data.toList.length = s.size - i := by
    rw [Lib.extract_to_end]; simp
  rcases Lib.index_spec (s.extract i s.size).data.toList e.data.toList with ⟨h1, h2⟩ | ⟨k, h1, h2, h3, h4⟩
  · refine .inl ⟨h1, upGo_none s e _ _ fun j hj hje => ?_⟩
    obtain ⟨d, rfl⟩ : ∃ d, j = i + d := ⟨j - i, by omega⟩
    rw [occ_at s e i d hje]
    exact h2 d (by omega)
  · have hk : i + k + e.size ≤ s.size := by
      unfold Lib.occAt at h3
      have := List.IsPrefix.length_le (List.isPrefixOf_iff_prefix.1 h3)
      rw [List.length_drop, hl] at this
      have h5 : e.data.toList.length = e.size := by simp
      omega
    refine .inr ⟨k, h1, ?_, hk⟩
    exact upGo_some s e (i + k) hk (by rw [occ_at s e i k hk]; exact h3) _ _ (by omega) (by omega) fun j hj hjk => by
      obtain ⟨d, rfl⟩ : ∃ d, j = i + d := ⟨j - i, by omega⟩
      rw [occ_at s e i d (by omega)]
      exact h4 d (by omega)

end Go.Proofs.YtpnbkecchfhimaaGreatDoor

/- out of TagU2 -/
namespace Go.Proofs.YtpnbkecchfhimaaGreatDoor
set_option maxRecDepth 100000
open Go.RowKit
open Go.Lib (hid)
set_option linter.unusedVariables false

theorem add_pl (b o j : Nat) : (Addr.add ⟨b, o, none⟩ j) = ⟨b, o + j, none⟩ := by unfold Addr.add; split <;> simp_all

def tag0 : Array Value := #[.int .i64 0, .int .i64 0, .string ⟨#[]⟩, .slice none 0 0, .bool false, .bool false]

set_option maxRecDepth 100000 in
set_option maxHeartbeats 4000000 in
theorem upTo_any (b off n cap i : Nat) (kd : Int) (m : Int) (e s : ByteArray) (hn : n = s.size) (hi : i ≤ n) (hcap : n ≤ cap) (hc63 : cap ≤ 9223372036854775807) (he : 0 < e.size) (he2 : e.size ≤ 1000)
    (hm : n ≤ 1048576) (w : World) (hbB : b < w.heap.size) (hz : Lib.Bytes w b off s) (hml : w.cell? ⟨0, 0, none⟩ = some (.int .i64 m)) :
    Calls Tryz.prog 92 #[.slice (some ⟨b, off, none⟩) n cap, .int .i64 i, .int .i64 kd, .string e] w fun x w' =>
      x = .returned ((upToV s i kd e).val (.slice none 0 0)) ∧ Below w.heap.size w w' := by
  have h0l : 0 < w.heap.size := World.block_lt_of_cell? _ _ hml
  have hsl := fun W => slice_tail b off n cap i hi hcap W
  have HZ := hid hz
  have HN := hid hn
  have HML := hid hml
  have hk := fun W => Lib.run_convert_string_bytes (P := Tryz.prog) W 9 22 5 e Tryz.underlying9 Tryz.underlying22 Tryz.underlying5
  have HU := hid (upAt_index s e i (by omega) he)
  clear hz hn hml
  go_enter Tryz.func92, Tryz.ntmps92
  go_wp2_with fail
  have hb0 := (Below.refl w.heap.size w).alloc (Nat.le_refl _) (.cells tag0 110)
  have hr0 := Blk.new w 110 tag0
  have hs0 : (w.alloc (.cells tag0 110)).heap.size = w.heap.size + 1 := by simp
  simp only [tag0] at hb0 hr0 hs0
  generalize w.alloc (.cells #[.int .i64 0, .int .i64 0, .string ⟨#[]⟩, .slice none 0 0, .bool false, .bool false] 110) = w1 at *
  have hb1 := bytesWorld_below w1 5 e
  have hz1 := bytesWorld_new w1 5 e
  have hl1 := Lib.bytesWorld_size w1 5 e
  rw [hs0] at hz1 hl1
  generalize Lib.bytesWorld w1 5 e = w2 at *
  generalize grownCap w1 e.size 0 5 = ecap at *
  have hb2 : Below w.heap.size w w2 := hb0.trans (hb1.mono (by omega))
  have hz2 : Lib.Bytes w2 b off s := Bytes.keepAt HZ.out fun k => World.cell?_of_block (hb2.block b hbB)
  have hml2 : w2.cell? ⟨0, 0, none⟩ = some (.int .i64 m) := (hb2.cell (p := ⟨0, 0, none⟩) h0l).trans HML.out
  have hr2 : Blk w2 w.heap.size 110 tag0 := hr0.below hb1 (by omega)
  refine (index_any ⟨b, offIf cap i off, none⟩ ⟨w.heap.size + 1, 0, none⟩ (n - i) (cap - i) e.size ecap (s.extract i s.size) e m w2 (by rw [ByteArray.size_extract]; have := HN.out; omega) rfl
    (fun j hj => by rw [add_pl]; exact bytes_tail HN.out hcap hz2 j hj) (fun j hj => by rw [add_pl]; exact bytes_cell hz1 hj) (by omega) (by omega) (by omega) hml2).mono ?_
  rintro x w3 ⟨rfl, nd, rfl⟩
  have r0 := hr2.cell 0
  have r1 := hr2.cell 1
  have r2 := hr2.cell 2
  have r3 := hr2.cell 3
  have r4 := hr2.cell 4
  have r5 := hr2.cell 5
  have frr := hr2.frozen
  simp only [tag0, List.getElem?_toArray, List.getElem?_cons_zero, List.getElem?_cons_succ] at r0 r1 r2 r3 r4 r5
  have HR2 := hid hr2
  have HB2 := hid hb2
  have hfin := fun (z : Nat) (cl : Bool) => ((((((hr2.drewN nd).set_ 0 (.int .i64 kd)).set_ 1 (.int .i64 z)).set_ 2 (.string ⟨#[]⟩)).set_ 3 (.slice none 0 0)).set_ 4 (.bool false)).set_ 5 (.bool cl)
  have hbf := fun (z : Nat) (cl : Bool) => ((((((hb2.trans (below_drewN _ w2 nd)).setCell (p := ⟨w.heap.size, 0, none⟩) (Nat.le_refl _) (.int .i64 kd)).setCell (p := ⟨w.heap.size, 1, none⟩) (Nat.le_refl _) (.int .i64 z)).setCell (p := ⟨w.heap.size, 2, none⟩) (Nat.le_refl _) (.string ⟨#[]⟩)).setCell (p := ⟨w.heap.size, 3, none⟩) (Nat.le_refl _) (.slice none 0 0)).setCell (p := ⟨w.heap.size, 4, none⟩) (Nat.le_refl _) (.bool false)).setCell (p := ⟨w.heap.size, 5, none⟩) (Nat.le_refl _) (.bool cl)
  have HFIN := hid hfin
  have HBF := hid hbf
  clear hb0 hr0 hb1 hz1 hb2 hz2 hml2 hr2 hfin hbf hsl hk
  rcases HU.out with ⟨h1, h2⟩ | ⟨k, h1, h2, h3⟩
  · rw [h1]
    have HE : Hid (upToV s i kd e = ⟨kd, n, ⟨#[]⟩, [], false, false⟩) := by show _ = _; unfold upToV; rw [h2, HN.out]
    clear h1 h2 HU
    go_wp2_with fail
    (try simp only [Exit.inBlock, Exit.then])
    rw [HE.out]
    have hf := HFIN.out n false
    simp only [tag0, List.setIfInBounds_toArray, List.set] at hf
    exact bodyPost_ret (v := .agg #[.int .i64 kd, .int .i64 n, .string ⟨#[]⟩, .slice none 0 0, .bool false, .bool false]) (results_cell_row rfl _ _ w.heap.size _ _ _ _ rfl hf Tryz.underlying110 rfl (by kernel_rfl)) rfl ⟨rfl, HBF.out n false⟩
  · rw [h1]
    have HE : Hid (upToV s i kd e = ⟨kd, i + k + e.size, ⟨#[]⟩, [], false, true⟩) := by show _ = _; unfold upToV; rw [h2]
    have hn2 := HN.out
    have hk1 : (i : Int) + (k : Int) ≤ 9223372036854775807 := by omega
    have hk2 : (i : Int) + (k : Int) + (e.size : Int) ≤ 9223372036854775807 := by omega
    clear h1 h2 HU hn2
    go_wp2_with fail
    (try simp only [Exit.inBlock, Exit.then])
    rw [HE.out]
    have hf := HFIN.out (i + k + e.size) true
    simp only [tag0, List.setIfInBounds_toArray, List.set] at hf
    have hbb := HBF.out (i + k + e.size) true
    simp only [Int.natCast_add] at hf hbb
    exact bodyPost_ret (v := .agg #[.int .i64 kd, .int .i64 ((i : Int) + (k : Int) + (e.size : Int)), .string ⟨#[]⟩, .slice none 0 0, .bool false, .bool true]) (results_cell_row rfl _ _ w.heap.size _ _ _ _ rfl hf Tryz.underlying110 rfl (by kernel_rfl)) rfl ⟨by unfold Mk.val; simp, hbb⟩

end Go.Proofs.YtpnbkecchfhimaaGreatDoor

/- out of TagRead -/
namespace Go.Proofs.YtpnbkecchfhimaaGreatDoor
set_option maxRecDepth 100000
open Go.RowKit
open Go.Lib (hid)
set_option linter.unusedVariables false

def mk0 : Mk := ⟨0, 0, ⟨#[]⟩, [], false, false⟩
def comB : ByteArray := ⟨#[60, 33, 45, 45]⟩
def comE : ByteArray := ⟨#[45, 45, 62]⟩
def gtE : ByteArray := ⟨#[62]⟩
/-- Does a comment begin here? -/
def isCom (t : ByteArray) : Bool := Lib.hasPrefix t.data.toList comB.data.toList
/-- The mark with which bytes begin whose first one is <. -/
def headV (t : ByteArray) : Mk × Bool :=
  if isCom t = true then (upToV t 4 2 comE, true)
  else if byt t 1 = 47 ∧ 2 < t.size ∧ letterB (byt t 2) = true then (namedV t 2 1, true)
  else if byt t 1 = 33 ∨ byt t 1 = 63 ∨ byt t 1 = 47 then (upToV t 2 3 gtE, true)
  else if letterB (byt t 1) = true then (namedV t 1 0, true)
  else (mk0, false)
def readV (s : ByteArray) (at_ : Int) : Mk × Bool :=
  if at_ < 0 ∨ (s.size : Int) - 1 ≤ at_ ∨ byt s at_.toNat ≠ 60 then (mk0, false) else headV (s.extract at_.toNat s.size)

theorem results_row_tmp {P : Program} {fn : Func} {p u : Tmp} {ty : TypeId} (h : fn.results = #[.cell p ty, .tmp u]) (tmps : Array Value) (w : World) (g : Nat) (t : TypeId) (cs : Array Value) (fr : Nat × Nat) (d : TypeDesc)
    (hp : tmps.getD p undef = .pointer (some ⟨g, 0, none⟩)) (hg : w.heap[g]? = some (.cells cs t fr))
    (hu : P.underlying ty = some d) (hd : (match d with | .struct _ | .array _ _ => true | _ => false) = true) (hi : (P.info? ty).map (·.size) = some cs.size) :
    (results fn tmps).run P w = .ok (.tuple #[.agg cs, tmps.getD u undef]) w := by
  have hp' : tmps[p]?.getD undef = .pointer (some ⟨g, 0, none⟩) := by simpa using hp
  simp [results, h, hp', asAddr, run_loadVar_row w g t ty cs fr d hg hu hd hi]

theorem upToV_attrs (s : ByteArray) (i : Nat) (kd : Int) (e : ByteArray) : (upToV s i kd e).attrs = [] := by
  unfold upToV
  split <;> rfl

/-- A result's cells, stored one by one. -/
def set6 (w : World) (r : Nat) (M : Mk) (v : Value) : World :=
  (((((w.setCell ⟨r, 0, none⟩ (.int .i64 M.kind)).setCell ⟨r, 1, none⟩ (.int .i64 M.size)).setCell ⟨r, 2, none⟩ (.string M.name)).setCell ⟨r, 3, none⟩ v).setCell ⟨r, 4, none⟩ (.bool M.single)).setCell ⟨r, 5, none⟩ (.bool M.closed)
theorem set6_blk {w : World} {r : Nat} {M : Mk} {v : Value} (h : Blk w r 110 tag0) : Blk (set6 w r M v) r 110 #[.int .i64 M.kind, .int .i64 M.size, .string M.name, v, .bool M.single, .bool M.closed] := by
  have := (((((h.set_ 0 (.int .i64 M.kind)).set_ 1 (.int .i64 M.size)).set_ 2 (.string M.name)).set_ 3 v).set_ 4 (.bool M.single)).set_ 5 (.bool M.closed)
  show Blk _ _ _ _
  unfold set6
  simpa [tag0] using this
theorem set6_below {w w0 : World} {B r : Nat} {M : Mk} {v : Value} (hB : B ≤ r) (h : Below B w0 w) : Below B w0 (set6 w r M v) :=
  ((((((h.setCell (p := ⟨r, 0, none⟩) hB (.int .i64 M.kind)).setCell (p := ⟨r, 1, none⟩) hB (.int .i64 M.size)).setCell (p := ⟨r, 2, none⟩) hB (.string M.name)).setCell (p := ⟨r, 3, none⟩) hB v).setCell (p := ⟨r, 4, none⟩) hB (.bool M.single)).setCell (p := ⟨r, 5, none⟩) hB (.bool M.closed))
theorem set6_own {w : World} {B r n : Nat} {M : Mk} {v : Value} {xs : List Value} (hb : Blk w r 110 tag0) (h : w.ownsRow B 307 2 v n xs) : (set6 w r M v).ownsRow B 307 2 v n xs := by
  have hr : ∀ k, v.ownBlock = some k → some r ≠ some k := fun k hk e => own_blk_ne h hb (by decide) (hk.trans e.symm)
  exact own_kept (own_kept (own_kept (own_kept (own_kept (own_kept h (grown_set _ r 0 _) hr) (grown_set _ r 1 _) hr) (grown_set _ r 2 _) hr) (grown_set _ r 3 _) hr) (grown_set _ r 4 _) hr) (grown_set _ r 5 _) hr

theorem prefix_any (b o n c q d : Nat) (t : ByteArray) (w : World) (hn : n = t.size) (hnc : n ≤ c) (hz : Lib.Bytes w b o t) (hq : Lib.Bytes w q 0 comB) : Calls Tryz.prog 91 #[.slice (some ⟨b, o, none⟩) n c, .slice (some ⟨q, 0, none⟩) 4 d] w fun e w' => e = .returned (.bool (isCom t)) ∧ w' = w := by
  have h := Any.bytes_HasPrefix_all Tryz.laysb116 (some ⟨b, o, none⟩) (some ⟨q, 0, none⟩) n c 4 d (intsOf t) (intsOf comB) w (by rw [intsOf_len, hn]) (by rw [intsOf_len]; rfl) hnc
    (Lib.BytesIn.of_cells fun i hi => by rw [add_pl, intsOf_get]; exact bytes_cell hz (by omega)) (Lib.BytesIn.of_cells fun i hi => by rw [add_pl, intsOf_get]; exact bytes_cell hq (show i < comB.size from hi))
  rw [intsOf_bytes, intsOf_bytes] at h
  exact h

set_option maxRecDepth 100000 in
set_option maxHeartbeats 4000000 in
theorem head_walk (b off n cap i : Nat) (m : Int) (s : ByteArray) (hn : n = s.size) (hi : i + 1 < n) (hcap : n ≤ cap) (hc63 : cap ≤ 9223372036854775807)
    (hm : n ≤ 1048576) (w : World) (hbB : b < w.heap.size) (hz : Lib.Bytes w b off s) (hml : w.cell? ⟨0, 0, none⟩ = some (.int .i64 m)) (h60 : byt s i = 60) :
    Calls Tryz.prog 60 #[.slice (some ⟨b, off, none⟩) n cap, .int .i64 i] w fun e w' =>
      ∃ v, e = .returned (.tuple #[(headV (s.extract i s.size)).1.val v, .bool (headV (s.extract i s.size)).2]) ∧ Below w.heap.size w w' ∧ w'.ownsRow w.heap.size 307 2 v (headV (s.extract i s.size)).1.attrs.length (atCells (headV (s.extract i s.size)).1.attrs) := by
  have h0l : 0 < w.heap.size := World.block_lt_of_cell? _ _ hml
  have hsl := fun W => slice_tail b off n cap i (by omega) hcap W
  simp only [show offIf cap i off = off + i by unfold offIf; rw [if_neg (by omega)]] at hsl
  have hcell := bytes_cell hz (i := i) (by omega)
  rw [h60] at hcell
  have hge : ¬ ((n : Int) - 1 ≤ (i : Int)) := by omega
  have HZ := hid hz
  have HN := hid hn
  have HML := hid hml
  clear hz hn hml
  go_enter Tryz.func60, Tryz.ntmps60
  go_wp2_with fail
  have hb0 := (Below.refl w.heap.size w).alloc (Nat.le_refl _) (.cells tag0 110)
  have hr0 := Blk.new w 110 tag0
  have hs0 : (w.alloc (.cells tag0 110)).heap.size = w.heap.size + 1 := by simp
  simp only [tag0] at hb0 hr0 hs0
  generalize w.alloc (.cells #[.int .i64 0, .int .i64 0, .string ⟨#[]⟩, .slice none 0 0, .bool false, .bool false] 110) = w1 at *
  have kc := Lib.run_convert_bytes_const (P := Tryz.prog) w1 22 5 #[.int .u8 60, .int .u8 33, .int .u8 45, .int .u8 45] 4 4 Tryz.underlying22 Tryz.underlying5
  have hc4 := fun i => cell_of_row _ w1.heap.size i _ _ _ (heap_alloc_new w1 (.cells #[.int .u8 60, .int .u8 33, .int .u8 45, .int .u8 45] 5 (4, 5)))
  have hb1 := hb0.alloc (by omega) (.cells #[.int .u8 60, .int .u8 33, .int .u8 45, .int .u8 45] 5 (4, 5))
  have hr1 := hr0.alloc (.cells #[.int .u8 60, .int .u8 33, .int .u8 45, .int .u8 45] 5 (4, 5))
  rw [hs0] at kc hc4
  rw [kc]
  simp only [List.size_toArray, List.length_cons, List.length_nil, Nat.reduceAdd]
  generalize hw2 : w1.alloc (.cells #[.int .u8 60, .int .u8 33, .int .u8 45, .int .u8 45] 5 (4, 5)) = w2 at *
  have hs2 : w2.heap.size = w.heap.size + 2 := by rw [← hw2]; simp [hs0]
  clear kc hw2
  go_wp2_with fail
  have hzt : Lib.Bytes w2 b (off + i) (s.extract i s.size) := by
    apply bytes_of_byt
    intro j hj
    rw [World.cell?_of_block (hb1.block b hbB)]
    have := bytes_tail HN.out hcap HZ.out j (i := i) (by rw [ByteArray.size_extract] at hj; have := HN.out; omega)
    rwa [show offIf cap i off = off + i by unfold offIf; rw [if_neg (by omega)]] at this
  have hzc : Lib.Bytes w2 (w.heap.size + 1) 0 comB := by
    apply bytes_of_byt
    intro j hj
    rw [Nat.zero_add, hc4 j]
    have : j = 0 ∨ j = 1 ∨ j = 2 ∨ j = 3 := by have : comB.size = 4 := rfl; omega
    rcases this with rfl | rfl | rfl | rfl <;> rfl
  have ht : n - i = (s.extract i s.size).size := by rw [ByteArray.size_extract]; have := HN.out; omega
  have hml2 : w2.cell? ⟨0, 0, none⟩ = some (.int .i64 m) := (hb1.cell (p := ⟨0, 0, none⟩) h0l).trans HML.out
  generalize hte : s.extract i s.size = t at *
  have HTE := hid hte
  clear hte
  refine (prefix_any b (off + i) (n - i) (cap - i) (w.heap.size + 1) 4 t w2 ht (by omega) hzt hzc).mono ?_
  rintro e w3 ⟨rfl, rfl⟩
  have hc1 := bytes_cell hzt (i := 1) (by omega)
  have hd1 := byt_nonneg t 1
  have HZT := hid hzt
  have HB1 := hid hb1
  have HR1 := hid hr1
  have hnb : b ≠ w.heap.size := by omega
  have HT := hid ht
  have HML2 := hid hml2
  have r0 := hr1.cell 0
  have r1 := hr1.cell 1
  have r2 := hr1.cell 2
  have r3 := hr1.cell 3
  have r4 := hr1.cell 4
  have r5 := hr1.cell 5
  have frr := hr1.frozen
  simp only [List.getElem?_toArray, List.getElem?_cons_zero, List.getElem?_cons_succ] at r0 r1 r2 r3 r4 r5
  clear hb0 hr0 hc4 hzc hzt hb1 hr1 hsl hml2 ht
  have hup := fun (k : Nat) (kd : Int) (e : ByteArray) (hk : k ≤ n - i) (he : 0 < e.size) (he2 : e.size ≤ 1000) =>
    upTo_any b (off + i) (n - i) (cap - i) k kd m e t HT.out hk (by omega) (by omega) he he2 (by omega) w3 (by omega) HZT.out HML2.out
  have hnm := fun (k : Nat) (kd : Int) (hk : k ≤ n - i) =>
    named_any b (off + i) (n - i) (cap - i) k kd t HT.out hk (by omega) (by omega) (by omega) w3 (by omega) HZT.out
  have HUP := hid hup
  have HNM := hid hnm
  clear hup hnm
  cases hcom : isCom t
  · have hnc : ¬ isCom t = true := by rw [hcom]; decide
    clear hcom
    by_cases h47 : byt t 1 = 47
    · by_cases h2 : 2 < n - i
      · have h2t : 2 < t.size := by have := HT.out; omega
        have hc2 := bytes_cell HZT.out (i := 2) h2t
        have h2i : (2 : Int) < ((n - i : Nat) : Int) := by omega
        cases hlt : letterB (byt t 2)
        · have HE := hid (show headV t = (upToV t 2 3 gtE, true) by unfold headV; rw [if_neg hnc, if_neg (fun h => by rw [hlt] at h; exact absurd h.2.2 (by decide)), if_pos (Or.inr (Or.inr h47))])
          have HL2 := hid (show ∀ W, Calls Tryz.prog 93 #[.int .u8 (byt t 2)] W fun e w' => e = .returned (.bool false) ∧ w' = W by intro W; have := letter_any (byt t 2) W; rwa [hlt] at this)
          rw [h47] at hc1 hd1
          generalize byt t 2 = c2 at *
          clear hnc h47 hlt
          go_wp2_with fail
          refine (HL2.out _).mono ?_
          rintro e w3' ⟨rfl, hw⟩
          obtain rfl : w3 = w3' := hw.symm
          go_wp2_with fail
          refine (HUP.out 2 3 gtE (by omega) (by decide) (by decide)).mono ?_
          rintro e w4 ⟨rfl, hb4⟩
          have hat := upToV_attrs t 2 3 gtE
          generalize upToV t 2 3 gtE = M at hat HE ⊢
          obtain ⟨kd, sz, nm, at_, sg, cl⟩ := M
          simp only at hat
          subst hat
          simp only [Mk.val]
          have hr4 := HR1.out.below hb4 (by omega)
          have q0 := hr4.cell 0
          have q1 := hr4.cell 1
          have q2 := hr4.cell 2
          have q3 := hr4.cell 3
          have q4 := hr4.cell 4
          have q5 := hr4.cell 5
          have frq := hr4.frozen
          simp only [List.getElem?_toArray, List.getElem?_cons_zero, List.getElem?_cons_succ] at q0 q1 q2 q3 q4 q5
          have hf := set6_blk (M := ⟨kd, sz, nm, [], sg, cl⟩) (v := .slice none 0 0) hr4
          have hB := set6_below (M := ⟨kd, sz, nm, [], sg, cl⟩) (v := .slice none 0 0) (Nat.le_refl w.heap.size) (HB1.out.trans (hb4.mono (by omega : w.heap.size ≤ w3.heap.size)))
          have HF := hid hf
          have HBF := hid hB
          clear hr4 hf hB hb4 r0 r1 r2 r3 r4 r5 frr
          go_wp2_with fail
          (try simp only [Exit.inBlock, Exit.then])
          rw [HTE.out, HE.out]
          exact bodyPost_ret (results_row_tmp rfl _ _ w.heap.size _ _ _ _ rfl HF.out Tryz.underlying110 rfl (by kernel_rfl)) rfl ⟨_, rfl, HBF.out, rfl, .inl ⟨rfl, rfl⟩⟩
        · have HE := hid (show headV t = (namedV t 2 1, true) by unfold headV; rw [if_neg hnc, if_pos ⟨h47, h2t, hlt⟩])
          have HL2 := hid (show ∀ W, Calls Tryz.prog 93 #[.int .u8 (byt t 2)] W fun e w' => e = .returned (.bool true) ∧ w' = W by intro W; have := letter_any (byt t 2) W; rwa [hlt] at this)
          rw [h47] at hc1 hd1
          generalize byt t 2 = c2 at *
          clear hnc h47 hlt
          go_wp2_with fail
          refine (HL2.out _).mono ?_
          rintro e w3' ⟨rfl, hw⟩
          obtain rfl : w3 = w3' := hw.symm
          go_wp2_with fail
          refine (HNM.out 2 1 (by omega)).mono ?_
          rintro e w4 ⟨v, rfl, hb4, ho4⟩
          generalize namedV t 2 1 = M at ho4 HE ⊢
          obtain ⟨a, c, rfl, _⟩ := owns_form ho4
          obtain ⟨kd, sz, nm, at_, sg, cl⟩ := M
          simp only [Mk.val]
          simp only at ho4
          have hr4 := HR1.out.below hb4 (by omega)
          have q0 := hr4.cell 0
          have q1 := hr4.cell 1
          have q2 := hr4.cell 2
          have q3 := hr4.cell 3
          have q4 := hr4.cell 4
          have q5 := hr4.cell 5
          have frq := hr4.frozen
          simp only [List.getElem?_toArray, List.getElem?_cons_zero, List.getElem?_cons_succ] at q0 q1 q2 q3 q4 q5
          have hf := set6_blk (M := ⟨kd, sz, nm, at_, sg, cl⟩) (v := .slice a at_.length c) hr4
          have hB := set6_below (M := ⟨kd, sz, nm, at_, sg, cl⟩) (v := .slice a at_.length c) (Nat.le_refl w.heap.size) (HB1.out.trans (hb4.mono (by omega : w.heap.size ≤ w3.heap.size)))
          have hO := set6_own (M := ⟨kd, sz, nm, at_, sg, cl⟩) hr4 (owns_base ho4 (by omega : w.heap.size ≤ w3.heap.size))
          have HF := hid hf
          have HBF := hid hB
          have HOF := hid hO
          clear hr4 hf hB hO hb4 ho4 r0 r1 r2 r3 r4 r5 frr
          go_wp2_with fail
          (try simp only [Exit.inBlock, Exit.then])
          rw [HTE.out, HE.out]
          exact bodyPost_ret (results_row_tmp rfl _ _ w.heap.size _ _ _ _ rfl HF.out Tryz.underlying110 rfl (by kernel_rfl)) rfl ⟨_, rfl, HBF.out, HOF.out⟩
      · have h2t : ¬ 2 < t.size := by have := HT.out; omega
        have h2i : ¬ (2 : Int) < ((n - i : Nat) : Int) := by omega
        have HE := hid (show headV t = (upToV t 2 3 gtE, true) by unfold headV; rw [if_neg hnc, if_neg (fun h => h2t h.2.1), if_pos (Or.inr (Or.inr h47))])
        rw [h47] at hc1 hd1
        clear hnc h47
        go_wp2_with fail
        refine (HUP.out 2 3 gtE (by omega) (by decide) (by decide)).mono ?_
        rintro e w4 ⟨rfl, hb4⟩
        have hat := upToV_attrs t 2 3 gtE
        generalize upToV t 2 3 gtE = M at hat HE ⊢
        obtain ⟨kd, sz, nm, at_, sg, cl⟩ := M
        simp only at hat
        subst hat
        simp only [Mk.val]
        have hr4 := HR1.out.below hb4 (by omega)
        have q0 := hr4.cell 0
        have q1 := hr4.cell 1
        have q2 := hr4.cell 2
        have q3 := hr4.cell 3
        have q4 := hr4.cell 4
        have q5 := hr4.cell 5
        have frq := hr4.frozen
        simp only [List.getElem?_toArray, List.getElem?_cons_zero, List.getElem?_cons_succ] at q0 q1 q2 q3 q4 q5
        have hf := set6_blk (M := ⟨kd, sz, nm, [], sg, cl⟩) (v := .slice none 0 0) hr4
        have hB := set6_below (M := ⟨kd, sz, nm, [], sg, cl⟩) (v := .slice none 0 0) (Nat.le_refl w.heap.size) (HB1.out.trans (hb4.mono (by omega : w.heap.size ≤ w3.heap.size)))
        have HF := hid hf
        have HBF := hid hB
        clear hr4 hf hB hb4 r0 r1 r2 r3 r4 r5 frr
        go_wp2_with fail
        (try simp only [Exit.inBlock, Exit.then])
        rw [HTE.out, HE.out]
        exact bodyPost_ret (results_row_tmp rfl _ _ w.heap.size _ _ _ _ rfl HF.out Tryz.underlying110 rfl (by kernel_rfl)) rfl ⟨_, rfl, HBF.out, rfl, .inl ⟨rfl, rfl⟩⟩
    · have b47 : (byt t 1 == 47) = false := by simpa using h47
      by_cases h33 : byt t 1 = 33
      · have HE := hid (show headV t = (upToV t 2 3 gtE, true) by unfold headV; rw [if_neg hnc, if_neg (fun h => h47 h.1), if_pos (Or.inl h33)])
        rw [h33] at hc1 hd1
        clear hnc h47 h33 b47
        go_wp2_with fail
        refine (HUP.out 2 3 gtE (by omega) (by decide) (by decide)).mono ?_
        rintro e w4 ⟨rfl, hb4⟩
        have hat := upToV_attrs t 2 3 gtE
        generalize upToV t 2 3 gtE = M at hat HE ⊢
        obtain ⟨kd, sz, nm, at_, sg, cl⟩ := M
        simp only at hat
        subst hat
        simp only [Mk.val]
        have hr4 := HR1.out.below hb4 (by omega)
        have q0 := hr4.cell 0
        have q1 := hr4.cell 1
        have q2 := hr4.cell 2
        have q3 := hr4.cell 3
        have q4 := hr4.cell 4
        have q5 := hr4.cell 5
        have frq := hr4.frozen
        simp only [List.getElem?_toArray, List.getElem?_cons_zero, List.getElem?_cons_succ] at q0 q1 q2 q3 q4 q5
        have hf := set6_blk (M := ⟨kd, sz, nm, [], sg, cl⟩) (v := .slice none 0 0) hr4
        have hB := set6_below (M := ⟨kd, sz, nm, [], sg, cl⟩) (v := .slice none 0 0) (Nat.le_refl w.heap.size) (HB1.out.trans (hb4.mono (by omega : w.heap.size ≤ w3.heap.size)))
        have HF := hid hf
        have HBF := hid hB
        clear hr4 hf hB hb4 r0 r1 r2 r3 r4 r5 frr
        go_wp2_with fail
        (try simp only [Exit.inBlock, Exit.then])
        rw [HTE.out, HE.out]
        exact bodyPost_ret (results_row_tmp rfl _ _ w.heap.size _ _ _ _ rfl HF.out Tryz.underlying110 rfl (by kernel_rfl)) rfl ⟨_, rfl, HBF.out, rfl, .inl ⟨rfl, rfl⟩⟩
      have b33 : (byt t 1 == 33) = false := by simpa using h33
      by_cases h63 : byt t 1 = 63
      · have HE := hid (show headV t = (upToV t 2 3 gtE, true) by unfold headV; rw [if_neg hnc, if_neg (fun h => h47 h.1), if_pos (Or.inr (Or.inl h63))])
        rw [h63] at hc1 hd1
        clear hnc h47 h33 h63 b47 b33
        go_wp2_with fail
        refine (HUP.out 2 3 gtE (by omega) (by decide) (by decide)).mono ?_
        rintro e w4 ⟨rfl, hb4⟩
        have hat := upToV_attrs t 2 3 gtE
        generalize upToV t 2 3 gtE = M at hat HE ⊢
        obtain ⟨kd, sz, nm, at_, sg, cl⟩ := M
        simp only at hat
        subst hat
        simp only [Mk.val]
        have hr4 := HR1.out.below hb4 (by omega)
        have q0 := hr4.cell 0
        have q1 := hr4.cell 1
        have q2 := hr4.cell 2
        have q3 := hr4.cell 3
        have q4 := hr4.cell 4
        have q5 := hr4.cell 5
        have frq := hr4.frozen
        simp only [List.getElem?_toArray, List.getElem?_cons_zero, List.getElem?_cons_succ] at q0 q1 q2 q3 q4 q5
        have hf := set6_blk (M := ⟨kd, sz, nm, [], sg, cl⟩) (v := .slice none 0 0) hr4
        have hB := set6_below (M := ⟨kd, sz, nm, [], sg, cl⟩) (v := .slice none 0 0) (Nat.le_refl w.heap.size) (HB1.out.trans (hb4.mono (by omega : w.heap.size ≤ w3.heap.size)))
        have HF := hid hf
        have HBF := hid hB
        clear hr4 hf hB hb4 r0 r1 r2 r3 r4 r5 frr
        go_wp2_with fail
        (try simp only [Exit.inBlock, Exit.then])
        rw [HTE.out, HE.out]
        exact bodyPost_ret (results_row_tmp rfl _ _ w.heap.size _ _ _ _ rfl HF.out Tryz.underlying110 rfl (by kernel_rfl)) rfl ⟨_, rfl, HBF.out, rfl, .inl ⟨rfl, rfl⟩⟩
      have b63 : (byt t 1 == 63) = false := by simpa using h63
      cases hlt : letterB (byt t 1)
      · have HE := hid (show headV t = (mk0, false) by unfold headV; rw [if_neg hnc, if_neg (fun h => h47 h.1), if_neg (fun h => h.elim h33 (fun h => h.elim h63 h47)), if_neg (by rw [hlt]; decide)])
        have HL2 := hid (show ∀ W, Calls Tryz.prog 93 #[.int .u8 (byt t 1)] W fun e w' => e = .returned (.bool false) ∧ w' = W by intro W; have := letter_any (byt t 1) W; rwa [hlt] at this)
        generalize byt t 1 = c1 at *
        clear hnc h47 h33 h63 hlt
        have hf := set6_blk (M := mk0) (v := .slice none 0 0) HR1.out
        have hB := set6_below (M := mk0) (v := .slice none 0 0) (Nat.le_refl w.heap.size) HB1.out
        have HF := hid hf
        have HBF := hid hB
        clear hf hB
        go_wp2_with fail
        refine (HL2.out _).mono ?_
        rintro e w3' ⟨rfl, hw⟩
        obtain rfl : w3 = w3' := hw.symm
        go_wp2_with fail
        (try simp only [Exit.inBlock, Exit.then])
        rw [HTE.out, HE.out]
        exact bodyPost_ret (results_row_tmp rfl _ _ w.heap.size _ _ _ _ rfl HF.out Tryz.underlying110 rfl (by kernel_rfl)) rfl ⟨_, rfl, HBF.out, rfl, .inl ⟨rfl, rfl⟩⟩
      · have HE := hid (show headV t = (namedV t 1 0, true) by unfold headV; rw [if_neg hnc, if_neg (fun h => h47 h.1), if_neg (fun h => h.elim h33 (fun h => h.elim h63 h47)), if_pos hlt])
        have HL2 := hid (show ∀ W, Calls Tryz.prog 93 #[.int .u8 (byt t 1)] W fun e w' => e = .returned (.bool true) ∧ w' = W by intro W; have := letter_any (byt t 1) W; rwa [hlt] at this)
        generalize byt t 1 = c1 at *
        clear hnc h47 h33 h63 hlt
        go_wp2_with fail
        refine (HL2.out _).mono ?_
        rintro e w3' ⟨rfl, hw⟩
        obtain rfl : w3 = w3' := hw.symm
        go_wp2_with fail
        refine (HNM.out 1 0 (by omega)).mono ?_
        rintro e w4 ⟨v, rfl, hb4, ho4⟩
        generalize namedV t 1 0 = M at ho4 HE ⊢
        obtain ⟨a, c, rfl, _⟩ := owns_form ho4
        obtain ⟨kd, sz, nm, at_, sg, cl⟩ := M
        simp only [Mk.val]
        simp only at ho4
        have hr4 := HR1.out.below hb4 (by omega)
        have q0 := hr4.cell 0
        have q1 := hr4.cell 1
        have q2 := hr4.cell 2
        have q3 := hr4.cell 3
        have q4 := hr4.cell 4
        have q5 := hr4.cell 5
        have frq := hr4.frozen
        simp only [List.getElem?_toArray, List.getElem?_cons_zero, List.getElem?_cons_succ] at q0 q1 q2 q3 q4 q5
        have hf := set6_blk (M := ⟨kd, sz, nm, at_, sg, cl⟩) (v := .slice a at_.length c) hr4
        have hB := set6_below (M := ⟨kd, sz, nm, at_, sg, cl⟩) (v := .slice a at_.length c) (Nat.le_refl w.heap.size) (HB1.out.trans (hb4.mono (by omega : w.heap.size ≤ w3.heap.size)))
        have hO := set6_own (M := ⟨kd, sz, nm, at_, sg, cl⟩) hr4 (owns_base ho4 (by omega : w.heap.size ≤ w3.heap.size))
        have HF := hid hf
        have HBF := hid hB
        have HOF := hid hO
        clear hr4 hf hB hO hb4 ho4 r0 r1 r2 r3 r4 r5 frr
        go_wp2_with fail
        (try simp only [Exit.inBlock, Exit.then])
        rw [HTE.out, HE.out]
        exact bodyPost_ret (results_row_tmp rfl _ _ w.heap.size _ _ _ _ rfl HF.out Tryz.underlying110 rfl (by kernel_rfl)) rfl ⟨_, rfl, HBF.out, HOF.out⟩
  · have h4 : 4 ≤ n - i := by
      have h := hcom
      unfold isCom Lib.hasPrefix at h
      have := List.IsPrefix.length_le (List.isPrefixOf_iff_prefix.1 h)
      have h5 : t.data.toList.length = t.size := by simp
      have h6 : comB.data.toList.length = 4 := rfl
      have := HT.out
      omega
    have HE := hid (show headV t = (upToV t 4 2 comE, true) by unfold headV; rw [if_pos hcom])
    clear hcom
    go_wp2_with fail
    refine (HUP.out 4 2 comE h4 (by decide) (by decide)).mono ?_
    rintro e w4 ⟨rfl, hb4⟩
    have hat := upToV_attrs t 4 2 comE
    generalize upToV t 4 2 comE = M at hat HE ⊢
    obtain ⟨kd, sz, nm, at_, sg, cl⟩ := M
    simp only at hat
    subst hat
    simp only [Mk.val]
    have hr4 := HR1.out.below hb4 (by omega)
    have q0 := hr4.cell 0
    have q1 := hr4.cell 1
    have q2 := hr4.cell 2
    have q3 := hr4.cell 3
    have q4 := hr4.cell 4
    have q5 := hr4.cell 5
    have frq := hr4.frozen
    simp only [List.getElem?_toArray, List.getElem?_cons_zero, List.getElem?_cons_succ] at q0 q1 q2 q3 q4 q5
    have hf := set6_blk (M := ⟨kd, sz, nm, [], sg, cl⟩) (v := .slice none 0 0) hr4
    have hB := set6_below (M := ⟨kd, sz, nm, [], sg, cl⟩) (v := .slice none 0 0) (Nat.le_refl w.heap.size) (HB1.out.trans (hb4.mono (by omega : w.heap.size ≤ w3.heap.size)))
    have HF := hid hf
    have HBF := hid hB
    clear hr4 hf hB hb4 r0 r1 r2 r3 r4 r5 frr
    go_wp2_with fail
    (try simp only [Exit.inBlock, Exit.then])
    rw [HTE.out, HE.out]
    exact bodyPost_ret (results_row_tmp rfl _ _ w.heap.size _ _ _ _ rfl HF.out Tryz.underlying110 rfl (by kernel_rfl)) rfl ⟨_, rfl, HBF.out, rfl, .inl ⟨rfl, rfl⟩⟩

end Go.Proofs.YtpnbkecchfhimaaGreatDoor

/- out of TagRead2 -/
namespace Go.Proofs.YtpnbkecchfhimaaGreatDoor
set_option maxRecDepth 100000
open Go.RowKit
open Go.Lib (hid)
set_option linter.unusedVariables false

set_option maxRecDepth 100000 in
set_option maxHeartbeats 4000000 in
theorem read_any (w : World) (a : Option Addr) (n cap : Nat) (i m : Int) (s : ByteArray) (hn : n = s.size) (hrow : 0 < n → ∃ b off, a = some ⟨b, off, none⟩ ∧ b < w.heap.size ∧ Lib.Bytes w b off s) (hcap : n ≤ cap) (hc63 : cap ≤ 9223372036854775807)
    (hm : n ≤ 1048576) (hi63 : i ≤ 9223372036854775807) (hml : w.cell? ⟨0, 0, none⟩ = some (.int .i64 m)) :
    Calls Tryz.prog 60 #[.slice a n cap, .int .i64 i] w fun e w' =>
      ∃ v, e = .returned (.tuple #[(readV s i).1.val v, .bool (readV s i).2]) ∧ Below w.heap.size w w' ∧ w'.ownsRow w.heap.size 307 2 v (readV s i).1.attrs.length (atCells (readV s i).1.attrs) := by
  by_cases h0 : i < 0
  ·
    have HE := hid (show readV s i = (mk0, false) by unfold readV; rw [if_pos (.inl h0)])
    have hb0 := (Below.refl w.heap.size w).alloc (Nat.le_refl _) (.cells tag0 110)
    have hr0 := Blk.new w 110 tag0
    have HF := hid hr0
    have HBF := hid hb0
    clear hb0 hr0 hn hml hrow
    go_enter Tryz.func60, Tryz.ntmps60
    go_wp2_with fail
    (try simp only [Exit.inBlock, Exit.then])
    rw [HE.out]
    exact bodyPost_ret (results_row_tmp rfl _ _ w.heap.size _ _ _ _ rfl HF.out Tryz.underlying110 rfl (by kernel_rfl)) rfl ⟨_, rfl, HBF.out, rfl, .inl ⟨rfl, rfl⟩⟩
  by_cases h1 : (n : Int) - 1 ≤ i
  ·
    have HE := hid (show readV s i = (mk0, false) by unfold readV; rw [if_pos (.inr (.inl (by omega)))])
    have hb0 := (Below.refl w.heap.size w).alloc (Nat.le_refl _) (.cells tag0 110)
    have hr0 := Blk.new w 110 tag0
    have HF := hid hr0
    have HBF := hid hb0
    clear hb0 hr0 hn hml hrow
    go_enter Tryz.func60, Tryz.ntmps60
    go_wp2_with fail
    (try simp only [Exit.inBlock, Exit.then])
    rw [HE.out]
    exact bodyPost_ret (results_row_tmp rfl _ _ w.heap.size _ _ _ _ rfl HF.out Tryz.underlying110 rfl (by kernel_rfl)) rfl ⟨_, rfl, HBF.out, rfl, .inl ⟨rfl, rfl⟩⟩
  obtain ⟨k, rfl⟩ : ∃ k : Nat, i = k := ⟨i.toNat, by omega⟩
  obtain ⟨b, off, rfl, hbB, hz⟩ := hrow (by omega)
  by_cases h60 : byt s k = 60
  · have he : readV s k = headV (s.extract k s.size) := by unfold readV; exact if_neg (fun h => h.elim h0 (fun h => h.elim (fun h => by omega) (fun h => h h60)))
    rw [he]
    exact head_walk b off n cap k m s hn (by omega) hcap hc63 hm w hbB hz hml h60
  · have hcell := bytes_cell hz (i := k) (by omega)
    have b60 : (byt s k != 60) = true := by simpa using h60
    have HE := hid (show readV s k = (mk0, false) by unfold readV; rw [if_pos (.inr (.inr h60))])
    generalize byt s k = c at *
    have hb0 := (Below.refl w.heap.size w).alloc (Nat.le_refl _) (.cells tag0 110)
    have hr0 := Blk.new w 110 tag0
    have HF := hid hr0
    have HBF := hid hb0
    clear hb0 hr0 hn hml hrow
    go_enter Tryz.func60, Tryz.ntmps60
    go_wp2_with fail
    (try simp only [Exit.inBlock, Exit.then])
    rw [HE.out]
    exact bodyPost_ret (results_row_tmp rfl _ _ w.heap.size _ _ _ _ rfl HF.out Tryz.underlying110 rfl (by kernel_rfl)) rfl ⟨_, rfl, HBF.out, rfl, .inl ⟨rfl, rfl⟩⟩

end Go.Proofs.YtpnbkecchfhimaaGreatDoor

/- out of TagPl -/
namespace Go.Proofs.YtpnbkecchfhimaaGreatDoor
set_option maxRecDepth 100000
set_option linter.unusedVariables false

theorem Pre.quoted {s s' : ByteArray} (h : Pre s s') (q : Int) (i : Nat) (hi : i < s.size) :
    (quotedV q s i).2 < s.size → quotedV q s' i = quotedV q s i := by
  have h1 := passTo_le (fun c => c != q) s (i := i + 1) (by omega)
  unfold quotedV
  simp only
  intro hl
  by_cases hj : passTo (fun c => c != q) s (i + 1) < s.size
  · have := h.1
    rw [h.pass_lt (by omega) hj, if_pos hj, if_pos (by omega), h.extract h1]
  · rw [if_neg hj] at hl
    omega
theorem Pre.quoted_end {s s' : ByteArray} (h : Pre s s') (q : Int) (i : Nat) (hi : i < s.size) : s.size ≤ (quotedV q s i).2 → s.size ≤ (quotedV q s' i).2 := by
  have h1 := passTo_le (fun c => c != q) s (i := i + 1) (by omega)
  have h0 := h.1
  unfold quotedV
  simp only
  intro hl
  by_cases hj : passTo (fun c => c != q) s (i + 1) < s.size
  · rw [if_pos hj] at hl
    rw [h.pass_lt (by omega) hj, if_pos (by omega)]
    exact hl
  · have := h.pass_end (p := fun c => c != q) (i := i + 1) (by omega) hj
    split <;> omega

theorem Pre.value {s s' : ByteArray} (h : Pre s s') (i : Nat) (hi : i < s.size) : (valueV s i).2 < s.size → valueV s' i = valueV s i := by
  have h1 := passTo_le blankB s (i := i + 1) (by omega)
  have h0 := h.1
  intro hl
  by_cases hk : passTo blankB s (i + 1) < s.size
  · have e1 := h.pass_lt (by omega) hk
    unfold valueV at hl ⊢
    simp only at hl ⊢
    rw [e1, h.2 _ hk]
    by_cases hq : byt s (passTo blankB s (i + 1)) = 34 ∨ byt s (passTo blankB s (i + 1)) = 39
    · rw [if_pos ⟨hk, hq⟩] at hl
      rw [if_pos ⟨by omega, hq⟩, if_pos ⟨hk, hq⟩]
      exact h.quoted _ _ hk hl
    · rw [if_neg (fun hh => hq hh.2)] at hl
      rw [if_neg (fun hh => hq hh.2), if_neg (fun hh => hq hh.2), h.pass_lt h1 hl, h.extract (passTo_le valC s h1)]
  · unfold valueV at hl
    simp only at hl
    rw [if_neg (fun hh => hk hh.1)] at hl
    have := passTo_ge valC s (passTo blankB s (i + 1))
    simp only at hl
    omega
theorem Pre.value_end {s s' : ByteArray} (h : Pre s s') (i : Nat) (hi : i < s.size) : s.size ≤ (valueV s i).2 → s.size ≤ (valueV s' i).2 := by
  have h1 := passTo_le blankB s (i := i + 1) (by omega)
  have h0 := h.1
  intro hl
  by_cases hk : passTo blankB s (i + 1) < s.size
  · have e1 := h.pass_lt (by omega) hk
    unfold valueV at hl ⊢
    simp only at hl ⊢
    rw [e1, h.2 _ hk]
    by_cases hq : byt s (passTo blankB s (i + 1)) = 34 ∨ byt s (passTo blankB s (i + 1)) = 39
    · rw [if_pos ⟨hk, hq⟩] at hl
      rw [if_pos ⟨by omega, hq⟩]
      exact h.quoted_end _ _ hk hl
    · rw [if_neg (fun hh => hq hh.2)] at hl
      rw [if_neg (fun hh => hq hh.2)]
      exact h.pass_end h1 (by simp only at hl; omega)
  · have e1 := h.pass_end (p := blankB) (i := i + 1) (by omega) hk
    have hle : passTo blankB s' (i + 1) ≤ (valueV s' i).2 := by
      unfold valueV
      simp only
      split
      · rename_i hh
        have := quotedV_bd (byt s' (passTo blankB s' (i + 1))) s' _ hh.1
        omega
      · exact passTo_ge valC s' _
    omega

theorem Pre.attr {s s' : ByteArray} (h : Pre s s') (i : Nat) (hi : i < s.size) (hl : (attrV s i).2 < s.size) : attrV s' i = attrV s i := by
  have h1 := passTo_le attrC s (i := i + 1) (by omega)
  have h0 := h.1
  have h2 := passTo_le blankB s (i := passTo attrC s (i + 1)) h1
  unfold attrV valueAt nameEnd at hl ⊢
  simp only at hl ⊢
  by_cases hj : passTo attrC s (i + 1) < s.size
  · by_cases hk : passTo blankB s (passTo attrC s (i + 1)) < s.size
    · have e1 := h.pass_lt (by omega) hj
      have e2 := h.pass_lt h1 hk
      rw [e1, e2, h.extract h1, h.2 _ hk]
      by_cases hq : byt s (passTo blankB s (passTo attrC s (i + 1))) = 61
      · rw [if_pos ⟨hk, hq⟩] at hl
        rw [if_pos ⟨by omega, hq⟩, if_pos ⟨hk, hq⟩, h.value _ hk hl]
      · rw [if_neg (fun hh => hq hh.2), if_neg (fun hh => hq hh.2)]
    · rw [if_neg (fun hh => hk hh.1)] at hl
      simp only at hl
      omega
  · have := passTo_ge blankB s (passTo attrC s (i + 1))
    rw [if_neg (fun hh => by omega)] at hl
    simp only at hl
    omega
theorem Pre.attr_end {s s' : ByteArray} (h : Pre s s') (i : Nat) (hi : i < s.size) (hl : s.size ≤ (attrV s i).2) : s.size ≤ (attrV s' i).2 := by
  have h1 := passTo_le attrC s (i := i + 1) (by omega)
  have h0 := h.1
  have h2 := passTo_le blankB s (i := passTo attrC s (i + 1)) h1
  have hle : passTo blankB s' (passTo attrC s' (i + 1)) ≤ (attrV s' i).2 := by
    unfold attrV valueAt nameEnd
    simp only
    split
    · rename_i hh
      have := valueV_bd s' _ hh.1
      omega
    · simp
  by_cases hj : passTo attrC s (i + 1) < s.size
  · have e1 := h.pass_lt (by omega) hj
    by_cases hk : passTo blankB s (passTo attrC s (i + 1)) < s.size
    · have e2 := h.pass_lt h1 hk
      unfold attrV valueAt nameEnd at hl ⊢
      simp only at hl ⊢
      rw [e1, e2, h.2 _ hk]
      by_cases hq : byt s (passTo blankB s (passTo attrC s (i + 1))) = 61
      · rw [if_pos ⟨hk, hq⟩] at hl
        rw [if_pos ⟨by omega, hq⟩]
        exact h.value_end _ hk hl
      · rw [if_neg (fun hh => hq hh.2)] at hl
        simp only at hl
        omega
    · have e2 := h.pass_end (p := blankB) h1 hk
      rw [e1] at hle
      omega
  · have e1 := h.pass_end (p := attrC) (i := i + 1) (by omega) hj
    have := passTo_ge blankB s' (passTo attrC s' (i + 1))
    omega

theorem restGo_ge (s : ByteArray) : ∀ (f i : Nat) (acc), i ≤ s.size → i ≤ (restGo s f i acc).at_
  | 0, i, acc, hi => Nat.le_refl _
  | f + 1, i, acc, hi => by
    have h1 := passTo_ge skipC s i
    unfold restGo
    split
    · exact h1
    · split
      · simp only; omega
      · have := attrV_bd s (passTo skipC s i) (by omega)
        have := restGo_ge s f (attrV s (passTo skipC s i)).2 (acc ++ [(attrV s (passTo skipC s i)).1]) (by omega)
        omega
theorem restAt_ge (s : ByteArray) (i : Nat) (acc) (hi : i ≤ s.size) : i ≤ (restAt s i acc).at_ := restGo_ge s _ i acc hi

/-- One that is closed is the same; one that isn't is all that there is, and is no shorter with more behind. -/
theorem Pre.rest {s s' : ByteArray} (h : Pre s s') : ∀ (f i : Nat) (acc), s.size - i = f → i ≤ s.size →
    ((restAt s i acc).closed = true → restAt s' i acc = restAt s i acc ∧ (restAt s i acc).at_ ≤ s.size ∧ i < (restAt s i acc).at_) ∧
    ((restAt s i acc).closed = false → (restAt s i acc).at_ = s.size ∧ (restAt s i acc).single = false ∧ s.size ≤ (restAt s' i acc).at_) := by
  intro f
  induction f using Nat.strongRecOn with
  | ind f ih =>
    intro i acc hf hi
    have h0 := h.1
    have h1 := passTo_ge skipC s i
    have h2 := passTo_le skipC s hi
    by_cases hk : passTo skipC s i < s.size
    · have e1 := h.pass_lt hi hk
      by_cases hc : byt s (passTo skipC s i) = 62
      · have hc' : byt s' (passTo skipC s' i) = 62 := by rw [e1, h.2 _ hk]; exact hc
        rw [restAt_close s i acc hi hk hc, restAt_close s' i acc (by omega) (by omega) hc', e1, h.extract h2]
        exact ⟨fun _ => ⟨rfl, by simp only; omega, by simp only; omega⟩, fun h => by cases h⟩
      · have hc' : ¬ byt s' (passTo skipC s' i) = 62 := by rw [e1, h.2 _ hk]; exact hc
        have hbd := attrV_bd s (passTo skipC s i) hk
        rw [restAt_more s i acc hi hk hc, restAt_more s' i acc (by omega) (by omega) hc', e1]
        by_cases ha : (attrV s (passTo skipC s i)).2 < s.size
        · rw [h.attr _ hk ha]
          have := ih (s.size - (attrV s (passTo skipC s i)).2) (by omega) (attrV s (passTo skipC s i)).2 (acc ++ [(attrV s (passTo skipC s i)).1]) rfl hbd.2
          exact ⟨fun hcl => ⟨(this.1 hcl).1, (this.1 hcl).2.1, by have := (this.1 hcl).2.2; omega⟩, this.2⟩
        · have he : (attrV s (passTo skipC s i)).2 = s.size := by omega
          have hend := passTo_end (p := skipC) (s := s) (i := s.size) (Nat.le_refl _)
          rw [he, restAt_end s s.size _ (Nat.le_refl _) (by rw [hend]; exact Nat.le_refl _), hend]
          refine ⟨(fun h => by cases h), fun _ => ⟨rfl, rfl, ?_⟩⟩
          have h3 := h.attr_end _ hk (by omega)
          have h4 := attrV_bd s' (passTo skipC s i) (by omega)
          have := restAt_ge s' (attrV s' (passTo skipC s i)).2 (acc ++ [(attrV s' (passTo skipC s i)).1]) h4.2
          omega
    · rw [restAt_end s i acc hi (by omega)]
      refine ⟨(fun h => by cases h), fun _ => ⟨by simp only; omega, rfl, ?_⟩⟩
      have e1 := h.pass_end hi hk
      have hi' : i ≤ s'.size := by omega
      by_cases hk' : passTo skipC s' i < s'.size
      · by_cases hc : byt s' (passTo skipC s' i) = 62
        · rw [restAt_close s' i acc hi' hk' hc]; simp only; omega
        · rw [restAt_more s' i acc hi' hk' hc]
          have h4 := attrV_bd s' (passTo skipC s' i) hk'
          have := restAt_ge s' (attrV s' (passTo skipC s' i)).2 (acc ++ [(attrV s' (passTo skipC s' i)).1]) h4.2
          omega
      · rw [restAt_end s' i acc hi' (by omega)]; simp only; omega

/-- What TagGrows says of two marks. -/
structure Grows (s s' : ByteArray) (M M' : Mk) : Prop where
  le : M.size ≤ s.size
  same : M.closed = true → M' = M
  more : M.closed = false → M.size = s.size ∧ s.size ≤ M'.size ∧ M.single = false

theorem Pre.named {s s' : ByteArray} (h : Pre s s') (i : Nat) (kd : Int) (hi : i ≤ s.size) : Grows s s' (namedV s i kd) (namedV s' i kd) ∧ i ≤ (namedV s i kd).size := by
  have h1 := passTo_le nameC s hi
  have h0 := h.1
  have h4 := passTo_ge nameC s i
  have hr := restAt_ge s (passTo nameC s i) [] h1
  have hrest := h.rest _ (passTo nameC s i) [] rfl h1
  refine ⟨?_, by unfold namedV; simp only; omega⟩
  by_cases hj : passTo nameC s i < s.size
  · have e1 := h.pass_lt hi hj
    refine ⟨?_, ?_, ?_⟩
    · show (restAt s (passTo nameC s i) []).at_ ≤ s.size
      cases hc : (restAt s (passTo nameC s i) []).closed
      · have := (hrest.2 hc).1; omega
      · exact (hrest.1 hc).2.1
    · intro hc
      have := (hrest.1 hc).1
      unfold namedV
      simp only
      rw [e1, this, h.extract h1]
    · intro hc
      have := hrest.2 hc
      refine ⟨this.1, ?_, this.2.1⟩
      show s.size ≤ (restAt s' (passTo nameC s' i) []).at_
      rw [e1]
      exact this.2.2
  · have he : passTo nameC s i = s.size := by omega
    have hend := passTo_end (p := skipC) (s := s) (i := s.size) (Nat.le_refl _)
    have hR : restAt s (passTo nameC s i) [] = ⟨[], s.size, false, false⟩ := by
      rw [he, restAt_end s s.size _ (Nat.le_refl _) (by rw [hend]; exact Nat.le_refl _), hend]
    refine ⟨?_, ?_, ?_⟩
    · show (restAt s (passTo nameC s i) []).at_ ≤ s.size
      rw [hR]; exact Nat.le_refl _
    · intro hc
      have : (restAt s (passTo nameC s i) []).closed = true := hc
      rw [hR] at this
      cases this
    · intro _
      refine ⟨by show (restAt s (passTo nameC s i) []).at_ = _; rw [hR], ?_, by show (restAt s (passTo nameC s i) []).single = _; rw [hR]⟩
      have e1 := h.pass_end hi hj
      have e2 := passTo_le nameC s' (i := i) (by omega)
      have := restAt_ge s' (passTo nameC s' i) [] e2
      show s.size ≤ (restAt s' (passTo nameC s' i) []).at_
      omega

theorem Pre.occ {s s' : ByteArray} (h : Pre s s') (e : ByteArray) (i : Nat) (hi : i + e.size ≤ s.size) : occ s' e i = occ s e i := by
  unfold Go.Proofs.YtpnbkecchfhimaaGreatDoor.occ
  rw [h.extract hi]
theorem Pre.up {s s' : ByteArray} (h : Pre s s') (e : ByteArray) : ∀ (f f' i : Nat), s.size + 1 - i ≤ f → s'.size + 1 - i ≤ f' →
    (∀ z, upGo s e f i = some z → upGo s' e f' i = some z ∧ z ≤ s.size ∧ i ≤ z) ∧ (upGo s e f i = none → ∀ z, upGo s' e f' i = some z → s.size < z)
  | 0, f', i, hf, hf' => by
    refine ⟨(fun z hz => by cases hz), fun _ z hz => ?_⟩
    have : ∀ f' i z, upGo s' e f' i = some z → i ≤ z := by
      intro f'
      induction f' with
      | zero => intro i z h; cases h
      | succ f' ih =>
        intro i z h
        unfold upGo at h
        split at h
        · split at h
          · cases h; omega
          · have := ih _ _ h; omega
        · cases h
    have := this f' i z hz
    omega
  | f + 1, 0, i, hf, hf' => by
    have := h.1
    refine ⟨fun z hz => ?_, fun _ z hz => by cases hz⟩
    unfold upGo at hz
    rw [if_neg (by omega)] at hz
    cases hz
  | f + 1, f' + 1, i, hf, hf' => by
    have h0 := h.1
    unfold upGo
    by_cases hi : i + e.size ≤ s.size
    · rw [if_pos hi, if_pos (show i + e.size ≤ s'.size by omega), h.occ e i hi]
      by_cases ho : Go.Proofs.YtpnbkecchfhimaaGreatDoor.occ s e i = true
      · rw [if_pos ho, if_pos ho]
        exact ⟨fun z hz => ⟨hz, by cases hz; omega, by cases hz; omega⟩, fun hz => by cases hz⟩
      · rw [if_neg ho, if_neg ho]
        have := Pre.up h e f f' (i + 1) (by omega) (by omega)
        exact ⟨fun z hz => ⟨(this.1 z hz).1, (this.1 z hz).2.1, by have := (this.1 z hz).2.2; omega⟩, this.2⟩
    · rw [if_neg hi]
      refine ⟨(fun z hz => by cases hz), fun _ z hz => ?_⟩
      split at hz
      · split at hz
        · cases hz; omega
        · have : ∀ f' i z, upGo s' e f' i = some z → i + e.size ≤ z := by
            intro f'
            induction f' with
            | zero => intro i z h; cases h
            | succ f' ih =>
              intro i z h
              unfold upGo at h
              split at h
              · split at h
                · cases h; omega
                · have := ih _ _ h; omega
              · cases h
          have := this f' (i + 1) z hz
          omega
      · cases hz
theorem Pre.upTo {s s' : ByteArray} (h : Pre s s') (i : Nat) (kd : Int) (e : ByteArray) (hi : i ≤ s.size) : Grows s s' (upToV s i kd e) (upToV s' i kd e) ∧ i ≤ (upToV s i kd e).size := by
  have h0 := h.1
  have hu := h.up e (s.size + 1 - i) (s'.size + 1 - i) i (Nat.le_refl _) (Nat.le_refl _)
  unfold upToV upAt
  cases hs : upGo s e (s.size + 1 - i) i with
  | some z =>
    obtain ⟨h1, h2, h3⟩ := hu.1 z hs
    rw [h1]
    exact ⟨⟨h2, fun _ => rfl, fun h => by cases h⟩, h3⟩
  | none =>
    refine ⟨⟨Nat.le_refl _, (fun h => by cases h), fun _ => ⟨rfl, ?_, rfl⟩⟩, hi⟩
    cases hs' : upGo s' e (s'.size + 1 - i) i with
    | some z => exact Nat.le_of_lt (hu.2 hs z hs')
    | none => exact h0

theorem isCom_iff (t : ByteArray) : isCom t = true ↔ 4 ≤ t.size ∧ byt t 0 = 60 ∧ byt t 1 = 33 ∧ byt t 2 = 45 ∧ byt t 3 = 45 := by
  have hb : ∀ i, byt t i = ((t.data.toList.getD i 0).toNat : Int) := by
    intro i
    unfold byt
    rw [List.getD_eq_getElem?_getD, Array.getElem?_toList, Array.getD_eq_getD_getElem?]
  have hs : t.size = t.data.toList.length := by simp
  simp only [hb, hs]
  unfold isCom Lib.hasPrefix comB
  generalize t.data.toList = l
  have hc : ∀ (a : UInt8) (n : Nat), n < 256 → (((a.toNat : Int) = (n : Int)) ↔ a = UInt8.ofNat n) := by
    intro a n hn
    constructor
    · intro h
      apply UInt8.toNat_inj.1
      rw [UInt8.toNat_ofNat']
      omega
    · rintro rfl
      rw [UInt8.toNat_ofNat']
      omega
  match l with
  | [] => simp
  | [_] => simp
  | [_, _] => simp
  | [_, _, _] => simp
  | a :: b :: c :: d :: l =>
    have h1 : ((a.toNat : Int) = 60) ↔ a = UInt8.ofNat 60 := hc a 60 (by decide)
    have h2 : ((b.toNat : Int) = 33) ↔ b = UInt8.ofNat 33 := hc b 33 (by decide)
    have h3 : ((c.toNat : Int) = 45) ↔ c = UInt8.ofNat 45 := hc c 45 (by decide)
    have h4 : ((d.toNat : Int) = 45) ↔ d = UInt8.ofNat 45 := hc d 45 (by decide)
    have e0 : (a :: b :: c :: d :: l).getD 0 0 = a := rfl
    have e1 : (a :: b :: c :: d :: l).getD 1 0 = b := rfl
    have e2 : (a :: b :: c :: d :: l).getD 2 0 = c := rfl
    have e3 : (a :: b :: c :: d :: l).getD 3 0 = d := rfl
    rw [e0, e1, e2, e3, h1, h2, h3, h4]
    simp only [List.isPrefixOf, Bool.and_eq_true, beq_iff_eq, List.length_cons, and_true]
    constructor
    · rintro ⟨r1, r2, r3, r4⟩
      exact ⟨by omega, r1.symm, r2.symm, r3.symm, r4.symm⟩
    · rintro ⟨_, r1, r2, r3, r4⟩
      exact ⟨r1.symm, r2.symm, r3.symm, r4.symm⟩

theorem Pre.head {s s' : ByteArray} (h : Pre s s') (h2 : 2 ≤ s.size) :
    ((headV s).2 = false → (headV s).1.size = 0 ∧ (headV s').2 = false) ∧
    ((headV s).2 = true → (headV s').2 = true ∧ 2 ≤ (headV s).1.size ∧ Grows s s' (headV s).1 (headV s').1) := by
  have h0 := h.1
  have b1 : byt s' 1 = byt s 1 := h.2 1 (by omega)
  by_cases hc : isCom s = true
  · have hi := (isCom_iff s).1 hc
    have hc' : isCom s' = true := (isCom_iff s').2 ⟨by omega, by rw [h.2 0 (by omega)]; exact hi.2.1, by rw [b1]; exact hi.2.2.1, by rw [h.2 2 (by omega)]; exact hi.2.2.2.1, by rw [h.2 3 (by omega)]; exact hi.2.2.2.2⟩
    unfold headV
    rw [if_pos hc, if_pos hc']
    have := h.upTo 4 2 comE (by omega)
    exact ⟨(fun h => by cases h), fun _ => ⟨rfl, by have := this.2; simp only; omega, this.1⟩⟩
  · by_cases hc' : isCom s' = true
    · -- only with more behind it is it a comment
      have hi := (isCom_iff s').1 hc'
      have h4 : s.size < 4 := by
        rcases Nat.lt_or_ge s.size 4 with h4 | h4
        · exact h4
        · exact absurd ((isCom_iff s).2 ⟨h4, by rw [← h.2 0 (by omega)]; exact hi.2.1, by rw [← b1]; exact hi.2.2.1, by rw [← h.2 2 (by omega)]; exact hi.2.2.2.1, by rw [← h.2 3 (by omega)]; exact hi.2.2.2.2⟩) hc
      have h33 : byt s 1 = 33 := by rw [← b1]; exact hi.2.2.1
      have hV : headV s = (upToV s 2 3 gtE, true) := by
        unfold headV
        rw [if_neg hc, if_neg (fun h => by rw [h33] at h; exact absurd h.1 (by decide)), if_pos (Or.inl h33)]
      have hV' : headV s' = (upToV s' 4 2 comE, true) := by
        unfold headV
        rw [if_pos hc']
      rw [hV, hV']
      have hno : upAt s gtE 2 = none := by
        apply upGo_none
        intro j hj hje
        have hj2 : j = 2 := by have : gtE.size = 1 := rfl; omega
        subst hj2
        have hb2 : byt s 2 = 45 := by rw [← h.2 2 (by have : gtE.size = 1 := rfl; omega)]; exact hi.2.2.2.1
        cases ho : Go.Proofs.YtpnbkecchfhimaaGreatDoor.occ s gtE 2
        · rfl
        · unfold Go.Proofs.YtpnbkecchfhimaaGreatDoor.occ at ho
          have he := eq_of_beq ho
          have he2 := str_toList_inj.1 he
          have := congrArg (fun x => byt x 0) he2
          change byt _ 0 = byt _ 0 at this
          rw [byt_extract s 2 (2 + gtE.size) 0 (by have : gtE.size = 1 := rfl; omega) hje, hb2] at this
          cases this
      have hm : upToV s 2 3 gtE = ⟨3, s.size, ⟨#[]⟩, [], false, false⟩ := by unfold upToV; rw [hno]
      rw [hm]
      refine ⟨(fun h => by cases h), fun _ => ⟨rfl, h2, Nat.le_refl _, (fun h => by cases h), fun _ => ⟨rfl, ?_, rfl⟩⟩⟩
      have := (Pre.upTo (s := s') (s' := s') ⟨Nat.le_refl _, fun _ _ => rfl⟩ 4 2 comE hi.1).2
      show s.size ≤ (upToV s' 4 2 comE).size
      omega
    · by_cases h47 : byt s 1 = 47
      · by_cases h3 : 2 < s.size
        · have b2 : byt s' 2 = byt s 2 := h.2 2 h3
          cases hl : letterB (byt s 2)
          · have hV : headV s = (upToV s 2 3 gtE, true) := by
              unfold headV
              rw [if_neg hc, if_neg (fun h => by rw [hl] at h; exact absurd h.2.2 (by decide)), if_pos (Or.inr (Or.inr h47))]
            have hV' : headV s' = (upToV s' 2 3 gtE, true) := by
              unfold headV
              rw [b1, b2, if_neg hc', if_neg (fun h => by rw [hl] at h; exact absurd h.2.2 (by decide)), if_pos (Or.inr (Or.inr h47))]
            rw [hV, hV']
            have := h.upTo 2 3 gtE (by omega)
            exact ⟨(fun h => by cases h), fun _ => ⟨rfl, this.2, this.1⟩⟩
          · have hV : headV s = (namedV s 2 1, true) := by
              unfold headV
              rw [if_neg hc, if_pos ⟨h47, h3, hl⟩]
            have hV' : headV s' = (namedV s' 2 1, true) := by
              unfold headV
              rw [b1, b2, if_neg hc', if_pos ⟨h47, by omega, hl⟩]
            rw [hV, hV']
            have := h.named 2 1 (by omega)
            exact ⟨(fun h => by cases h), fun _ => ⟨rfl, this.2, this.1⟩⟩
        · have hs2 : s.size = 2 := by omega
          have hV : headV s = (upToV s 2 3 gtE, true) := by
            unfold headV
            rw [if_neg hc, if_neg (fun h => h3 h.2.1), if_pos (Or.inr (Or.inr h47))]
          have hno : upAt s gtE 2 = none := upGo_none _ _ _ _ fun j hj hje => by have : gtE.size = 1 := rfl; omega
          have hm : upToV s 2 3 gtE = ⟨3, s.size, ⟨#[]⟩, [], false, false⟩ := by unfold upToV; rw [hno]
          rw [hV, hm]
          have hge : (headV s').2 = true ∧ 2 ≤ (headV s').1.size := by
            have hp : Pre s' s' := ⟨Nat.le_refl _, fun _ _ => rfl⟩
            unfold headV
            rw [if_neg hc', b1]
            split
            · exact ⟨rfl, (hp.named 2 1 (by omega)).2⟩
            · rw [if_pos (Or.inr (Or.inr h47))]
              exact ⟨rfl, (hp.upTo 2 3 gtE (by omega)).2⟩
          exact ⟨(fun h => by cases h), fun _ => ⟨hge.1, h2, Nat.le_refl _, (fun h => by cases h), fun _ => ⟨rfl, by rw [hs2]; exact hge.2, rfl⟩⟩⟩
      · have n47 : ∀ (t : ByteArray), byt t 1 = byt s 1 → ¬ (byt t 1 = 47 ∧ 2 < t.size ∧ letterB (byt t 2) = true) := fun t ht hh => h47 (by rw [← ht]; exact hh.1)
        by_cases h33 : byt s 1 = 33 ∨ byt s 1 = 63
        · have h33' : byt s 1 = 33 ∨ byt s 1 = 63 ∨ byt s 1 = 47 := h33.elim .inl (fun h => .inr (.inl h))
          have hV : headV s = (upToV s 2 3 gtE, true) := by
            unfold headV
            rw [if_neg hc, if_neg (n47 s rfl), if_pos h33']
          have hV' : headV s' = (upToV s' 2 3 gtE, true) := by
            unfold headV
            rw [if_neg hc', if_neg (n47 s' b1), b1, if_pos h33']
          rw [hV, hV']
          have := h.upTo 2 3 gtE (by omega)
          exact ⟨(fun h => by cases h), fun _ => ⟨rfl, this.2, this.1⟩⟩
        · have n33 : ¬ (byt s 1 = 33 ∨ byt s 1 = 63 ∨ byt s 1 = 47) := fun hh => hh.elim (fun a => h33 (.inl a)) (fun b => b.elim (fun a => h33 (.inr a)) h47)
          cases hl : letterB (byt s 1)
          · have hV : headV s = (mk0, false) := by
              unfold headV
              rw [if_neg hc, if_neg (n47 s rfl), if_neg n33, if_neg (by rw [hl]; decide)]
            have hV' : headV s' = (mk0, false) := by
              unfold headV
              rw [if_neg hc', if_neg (n47 s' b1), b1, if_neg n33, if_neg (by rw [hl]; decide)]
            rw [hV, hV']
            exact ⟨fun _ => ⟨rfl, rfl⟩, fun h => by cases h⟩
          · have hV : headV s = (namedV s 1 0, true) := by
              unfold headV
              rw [if_neg hc, if_neg (n47 s rfl), if_neg n33, if_pos hl]
            have hV' : headV s' = (namedV s' 1 0, true) := by
              unfold headV
              rw [if_neg hc', if_neg (n47 s' b1), b1, if_neg n33, if_pos hl]
            rw [hV, hV']
            have := h.named 1 0 (by omega)
            have hn1 : passTo nameC s 1 ≥ 2 := by
              have hp : nameC (byt s 1) = true := by
                unfold letterB at hl
                simp only [Bool.or_eq_true, decide_eq_true_eq] at hl
                unfold nameC blankB
                simp only [Bool.and_eq_true, Bool.not_eq_true', Bool.or_eq_false_iff, beq_eq_false_iff_ne, bne_iff_ne]
                omega
              rw [passTo_step (by omega) hp]
              exact passTo_ge _ _ _
            have hn2 := restAt_ge s (passTo nameC s 1) [] (passTo_le nameC s (by omega))
            exact ⟨(fun h => by cases h), fun _ => ⟨rfl, by show 2 ≤ (restAt s (passTo nameC s 1) []).at_; omega, this.1⟩⟩

/-- TagGrows, plain. -/
theorem grows_read {s s' : ByteArray} (h : Pre s s') :
    ((readV s 0).2 = false → (readV s 0).1.size = 0 ∧ (s.size < 2 ∨ (readV s' 0).2 = false)) ∧
    ((readV s 0).2 = true → (readV s' 0).2 = true ∧ 2 ≤ (readV s 0).1.size ∧ Grows s s' (readV s 0).1 (readV s' 0).1) := by
  have h0 := h.1
  have hex : ∀ t : ByteArray, t.extract (Int.toNat 0) t.size = t := fun t => ByteArray.extract_zero_size
  by_cases h2 : 2 ≤ s.size
  · have b0 : byt s' 0 = byt s 0 := h.2 0 (by omega)
    by_cases h60 : byt s 0 = 60
    · have hr : readV s 0 = headV s := by
        unfold readV
        rw [hex]
        exact if_neg (fun hh => hh.elim (fun a => by omega) (fun b => b.elim (fun a => by omega) (fun a => a h60)))
      have hr' : readV s' 0 = headV s' := by
        unfold readV
        rw [hex]
        exact if_neg (fun hh => hh.elim (fun a => by omega) (fun b => b.elim (fun a => by omega) (fun a => a (b0.trans h60))))
      rw [hr, hr']
      have := h.head h2
      exact ⟨fun hf => ⟨(this.1 hf).1, .inr (this.1 hf).2⟩, this.2⟩
    · have hr : readV s 0 = (mk0, false) := by unfold readV; exact if_pos (.inr (.inr h60))
      have hr' : readV s' 0 = (mk0, false) := by unfold readV; exact if_pos (.inr (.inr (fun hh => h60 (b0.symm.trans hh))))
      rw [hr, hr']
      exact ⟨fun _ => ⟨rfl, .inr rfl⟩, fun h => by cases h⟩
  · have hr : readV s 0 = (mk0, false) := by unfold readV; exact if_pos (.inr (.inl (by omega)))
    rw [hr]
    exact ⟨fun _ => ⟨rfl, .inl (by omega)⟩, fun h => by cases h⟩

/-- No text of a mark is longer than the bytes. -/
def Small (s : ByteArray) (l : List (ByteArray × ByteArray)) : Prop := ∀ a ∈ l, a.1.size ≤ s.size ∧ a.2.size ≤ s.size
theorem valueV_small (s : ByteArray) (i : Nat) : (valueV s i).1.size ≤ s.size := by
  unfold valueV quotedV
  simp only
  split <;> simp only [ByteArray.size_extract] <;> omega
theorem attrV_small (s : ByteArray) (i : Nat) : (attrV s i).1.1.size ≤ s.size ∧ (attrV s i).1.2.size ≤ s.size := by
  unfold attrV valueAt
  simp only [lowerB_size, ByteArray.size_extract]
  refine ⟨by omega, ?_⟩
  split
  · exact valueV_small s _
  · exact Nat.zero_le _
theorem restGo_small (s : ByteArray) : ∀ (f i : Nat) (acc), i ≤ s.size → acc.length ≤ i → Small s acc → Small s (restGo s f i acc).attrs ∧ (restGo s f i acc).attrs.length ≤ s.size
  | 0, i, acc, hi, hl, ha => ⟨ha, by unfold restGo; simp only; omega⟩
  | f + 1, i, acc, hi, hl, ha => by
    have h1 := passTo_ge skipC s i
    unfold restGo
    split
    · exact ⟨ha, by simp only; omega⟩
    · split
      · exact ⟨ha, by simp only; omega⟩
      · have hbd := attrV_bd s (passTo skipC s i) (by omega)
        refine restGo_small s f _ _ hbd.2 (by simp; omega) ?_
        intro a hm
        rcases List.mem_append.1 hm with h | h
        · exact ha a h
        · obtain rfl := List.mem_singleton.1 h
          exact attrV_small s _
theorem named_small (s : ByteArray) (i : Nat) (kd : Int) (hi : i ≤ s.size) : Small s (namedV s i kd).attrs ∧ (namedV s i kd).attrs.length ≤ s.size :=
  restGo_small s _ _ [] (passTo_le nameC s hi) (Nat.zero_le _) (fun a h => by cases h)
theorem head_small (t : ByteArray) (h2 : 2 ≤ t.size) : Small t (headV t).1.attrs ∧ (headV t).1.attrs.length ≤ t.size := by
  have he : ∀ M : Mk, M.attrs = [] → Small t M.attrs ∧ M.attrs.length ≤ t.size := fun M h => by rw [h]; exact ⟨(fun a h => by cases h), Nat.zero_le _⟩
  unfold headV
  split
  · exact he _ (upToV_attrs ..)
  · split
    · exact named_small t 2 1 h2
    · split
      · exact he _ (upToV_attrs ..)
      · split
        · exact named_small t 1 0 (by omega)
        · exact he _ rfl
theorem read_small (s : ByteArray) (i : Int) : Small s (readV s i).1.attrs ∧ (readV s i).1.attrs.length ≤ s.size := by
  unfold readV
  split
  · exact ⟨(fun a h => by cases h), Nat.zero_le _⟩
  · rename_i hc
    have h1 : ¬ i < 0 := fun h => hc (.inl h)
    have h2 : ¬ (s.size : Int) - 1 ≤ i := fun h => hc (.inr (.inl h))
    have hs : (s.extract i.toNat s.size).size = s.size - i.toNat := by rw [ByteArray.size_extract]; omega
    have h := head_small (s.extract i.toNat s.size) (by omega)
    refine ⟨fun a ha => ?_, by omega⟩
    have := h.1 a ha
    omega

end Go.Proofs.YtpnbkecchfhimaaGreatDoor

/- out of TagSt -/
namespace Go.Proofs.YtpnbkecchfhimaaGreatDoor
set_option maxRecDepth 100000
set_option linter.unusedVariables false

structure St where
  state : Nat
  slash : Bool
  name : ByteArray
  value : ByteArray
  quote : Int
  tname : ByteArray
  attrs : List (ByteArray × ByteArray)
/-- One byte: the next state, and whether the mark ends. -/
def stepT (st : St) (c : Int) (ch : ByteArray) : St × Bool :=
  match st.state with
  | 0 => if blankB c = true ∨ c = 47 ∨ c = 62 then ({ st with state := 1, slash := c == 47 }, c == 62) else ({ st with tname := st.tname ++ lowerB ch }, false)
  | 1 => if c = 62 then (st, true) else if blankB c = true ∨ c = 47 then ({ st with slash := c == 47 }, false) else ({ st with state := 2, name := lowerB ch, value := ⟨#[]⟩ }, false)
  | 2 => if c = 61 then ({ st with state := 4 }, false) else if blankB c = true then ({ st with state := 3 }, false)
    else if c = 47 ∨ c = 62 then ({ st with attrs := st.attrs ++ [(st.name, ⟨#[]⟩)], state := 1, slash := c == 47 }, c == 62) else ({ st with name := st.name ++ lowerB ch }, false)
  | 3 => if blankB c = true then (st, false) else if c = 61 then ({ st with state := 4 }, false)
    else if c = 47 ∨ c = 62 then ({ st with attrs := st.attrs ++ [(st.name, ⟨#[]⟩)], state := 1, slash := c == 47 }, c == 62)
    else ({ st with attrs := st.attrs ++ [(st.name, ⟨#[]⟩)], state := 2, slash := false, name := lowerB ch, value := ⟨#[]⟩ }, false)
  | 4 => if blankB c = true then (st, false) else if c = 34 ∨ c = 39 then ({ st with state := 6, quote := c }, false)
    else if c = 62 then ({ st with attrs := st.attrs ++ [(st.name, ⟨#[]⟩)], state := 1, slash := false }, true) else ({ st with state := 5, value := ch }, false)
  | 5 => if blankB c = true ∨ c = 62 then ({ st with attrs := st.attrs ++ [(st.name, st.value)], state := 1, slash := false }, c == 62) else ({ st with value := st.value ++ ch }, false)
  | _ => if c = st.quote then ({ st with attrs := st.attrs ++ [(st.name, st.value)], state := 1, slash := false }, false) else ({ st with value := st.value ++ ch }, false)
def at1 (s : ByteArray) (i : Nat) : ByteArray := s.extract i (i + 1)
def runT (s : ByteArray) (kd : Int) : Nat → Nat → St → Mk
  | 0, i, st => ⟨kd, s.size, st.tname, if 2 ≤ st.state then st.attrs ++ [(st.name, st.value)] else st.attrs, false, false⟩
  | f + 1, i, st =>
    if (stepT st (byt s i) (at1 s i)).2 = true then ⟨kd, i + 1, (stepT st (byt s i) (at1 s i)).1.tname, (stepT st (byt s i) (at1 s i)).1.attrs, (stepT st (byt s i) (at1 s i)).1.slash, true⟩
    else runT s kd f (i + 1) (stepT st (byt s i) (at1 s i)).1
/-- What is read from i on, in a state. -/
def fromT (s : ByteArray) (kd : Int) (i : Nat) (st : St) : Mk := runT s kd (s.size - i) i st
def st0 : St := ⟨0, false, ⟨#[]⟩, ⟨#[]⟩, 0, ⟨#[]⟩, []⟩
def refNamed (s : ByteArray) (i : Nat) (kd : Int) : Mk := fromT s kd i st0

theorem fromT_end (s : ByteArray) (kd : Int) (i : Nat) (st : St) (h : s.size ≤ i) : fromT s kd i st = ⟨kd, s.size, st.tname, if 2 ≤ st.state then st.attrs ++ [(st.name, st.value)] else st.attrs, false, false⟩ := by
  unfold fromT
  rw [show s.size - i = 0 by omega]
  rfl
theorem fromT_step (s : ByteArray) (kd : Int) (i : Nat) (st : St) (h : i < s.size) : fromT s kd i st =
    if (stepT st (byt s i) (at1 s i)).2 = true then ⟨kd, i + 1, (stepT st (byt s i) (at1 s i)).1.tname, (stepT st (byt s i) (at1 s i)).1.attrs, (stepT st (byt s i) (at1 s i)).1.slash, true⟩
    else fromT s kd (i + 1) (stepT st (byt s i) (at1 s i)).1 := by
  unfold fromT
  rw [show s.size - i = (s.size - (i + 1)) + 1 by omega]
  rfl
theorem fromT_go (s : ByteArray) (kd : Int) (i : Nat) (st st' : St) (h : i < s.size) (hs : stepT st (byt s i) (at1 s i) = (st', false)) : fromT s kd i st = fromT s kd (i + 1) st' := by
  rw [fromT_step s kd i st h, hs]
  rfl
theorem fromT_stop (s : ByteArray) (kd : Int) (i : Nat) (st st' : St) (h : i < s.size) (hs : stepT st (byt s i) (at1 s i) = (st', true)) : fromT s kd i st = ⟨kd, i + 1, st'.tname, st'.attrs, st'.slash, true⟩ := by
  rw [fromT_step s kd i st h, hs]
  rfl

theorem low_append (x y : ByteArray) : lowerB (x ++ y) = lowerB x ++ lowerB y := by
  apply ByteArray.ext
  simp [lowerB, ByteArray.data_append]
theorem low_empty : lowerB ⟨#[]⟩ = ⟨#[]⟩ := by
  apply ByteArray.ext
  simp [lowerB]
theorem passTo_no (p : Int → Bool) (s : ByteArray) : ∀ (f i : Nat), s.size - i = f → passTo p s i < s.size → p (byt s (passTo p s i)) = false
  | 0, i, hf, h => by
    rw [passTo_end (by omega)] at h
    omega
  | f + 1, i, hf, h => by
    cases hp : p (byt s i)
    · rw [passTo_stop (by omega) hp]; exact hp
    · rw [passTo_step (by omega) hp] at h ⊢
      exact passTo_no p s f (i + 1) (by omega) h
/-- A reader that runs over bytes in a state that stays. -/
theorem runs (s : ByteArray) (kd : Int) (p : Int → Bool) (upd : St → ByteArray → St)
    (hnil : ∀ st, upd st ⟨#[]⟩ = st) (happ : ∀ st x y, upd (upd st x) y = upd st (x ++ y)) (ok : St → Prop) (hok : ∀ st x, ok st → ok (upd st x))
    (hstep : ∀ st c ch, ok st → p c = true → stepT st c ch = (upd st ch, false)) :
    ∀ (f i : Nat) (st : St), s.size - i = f → i ≤ s.size → ok st → fromT s kd i st = fromT s kd (passTo p s i) (upd st (s.extract i (passTo p s i)))
  | 0, i, st, hf, hi, ho => by
    rw [passTo_end (by omega), ext_self, hnil]
  | f + 1, i, st, hf, hi, ho => by
    have hlt : i < s.size := by omega
    cases hp : p (byt s i)
    · rw [passTo_stop hlt hp, ext_self, hnil]
    · rw [fromT_go s kd i st _ hlt (hstep st _ _ ho hp), runs s kd p upd hnil happ ok hok hstep f (i + 1) _ (by omega) (by omega) (hok _ _ ho), happ, passTo_step hlt hp]
      have h1 := passTo_ge p s (i + 1)
      have h2 := passTo_le p s (i := i + 1) (by omega)
      unfold at1
      rw [ext_append s i (i + 1) _ (by omega) h1 h2]

def fin (kd : Int) (t : ByteArray) (R : Rd) : Mk := ⟨kd, R.at_, t, R.attrs, R.single, R.closed⟩

theorem endSl_empty (s : ByteArray) (i : Nat) : endSl (s.extract i i) = false := by
  rw [ext_self]
  rfl
theorem endSl_snoc (s : ByteArray) (i k : Nat) (h : i ≤ k) (hk : k < s.size) : endSl (s.extract i (k + 1)) = (byt s k == 47) := by
  have h1 : endSl (s.extract i (k + 1)) = true ↔ byt s k = 47 := by
    unfold endSl
    have hsz : (s.extract i (k + 1)).size = k + 1 - i := by rw [ByteArray.size_extract]; omega
    rw [hsz, Bool.and_eq_true, decide_eq_true_eq]
    have hex : (s.extract i (k + 1)).extract (k + 1 - i - 1) (k + 1 - i) = at1 s k := by
      apply ext_byt
      · unfold at1
        simp only [ByteArray.size_extract]
        omega
      · intro j hj
        rw [ByteArray.size_extract, hsz] at hj
        unfold at1
        rw [byt_extract _ _ _ _ (by omega) (by omega), byt_extract _ _ _ _ (by omega) (by omega), byt_extract _ _ _ _ (by omega) (by omega)]
        congr 1
        omega
    rw [hex, beq_iff_eq, str_toList_inj]
    have hone : at1 s k = ⟨#[47]⟩ ↔ byt s k = 47 := by
      constructor
      · intro he
        have := congrArg (fun x => byt x 0) he
        change byt _ 0 = byt _ 0 at this
        unfold at1 at this
        rw [byt_extract s k (k + 1) 0 (by omega) (by omega), Nat.add_zero] at this
        rw [this]
        rfl
      · intro he
        apply ext_byt
        · unfold at1
          rw [ByteArray.size_extract]
          show min (k + 1) s.size - k = 1
          omega
        · intro j hj
          have hj0 : j = 0 := by
            unfold at1 at hj
            rw [ByteArray.size_extract] at hj
            omega
          subst hj0
          unfold at1
          rw [byt_extract s k (k + 1) 0 (by omega) (by omega), Nat.add_zero, he]
          rfl
    rw [hone]
    exact ⟨fun h => h.2, fun h => ⟨by omega, h⟩⟩
  by_cases h2 : byt s k = 47
  · rw [h1.2 h2, h2]; rfl
  · rw [Bool.eq_false_iff.2 (fun h => h2 (h1.1 h))]
    simp [h2]

theorem blank_not {c : Int} (h : blankB c = true) : c ≠ 47 ∧ c ≠ 62 ∧ c ≠ 61 ∧ c ≠ 34 ∧ c ≠ 39 := by
  unfold blankB at h
  simp only [Bool.or_eq_true, beq_iff_eq] at h
  omega

/-- What holds behind an attribute, or at the start: between attributes. -/
def Bet (s : ByteArray) (kd : Int) (i0 : Nat) : Prop :=
  ∀ (i : Nat) (st : St), i0 ≤ i → i ≤ s.size → st.state = 1 → st.slash = endSl (s.extract i0 i) → passTo skipC s i0 = passTo skipC s i → fromT s kd i st = fin kd st.tname (restAt s i0 st.attrs)

/-- An attribute's end at e: by the byte that stands there. -/
theorem bet_at (s : ByteArray) (kd : Int) (e : Nat) (hb : Bet s kd e) (he : e < s.size) (c : Int) (hc : byt s e = c) (h : blankB c = true ∨ c = 47) (st : St) (h1 : st.state = 1) (hs : st.slash = (c == 47)) :
    fromT s kd (e + 1) st = fin kd st.tname (restAt s e st.attrs) := by
  refine hb (e + 1) st (by omega) he h1 ?_ ?_
  · rw [endSl_snoc s e e (Nat.le_refl _) he, hc, hs]
  · refine passTo_step he ?_
    rw [hc]
    unfold skipC
    rcases h with h | h
    · rw [h]; rfl
    · subst h; simp
theorem close_at (s : ByteArray) (kd : Int) (e : Nat) (he : e < s.size) (hc : byt s e = 62) (acc) (t : ByteArray) : (⟨kd, e + 1, t, acc, false, true⟩ : Mk) = fin kd t (restAt s e acc) := by
  have hk : passTo skipC s e = e := passTo_stop he (by rw [hc]; rfl)
  rw [restAt_close s e acc (by omega) (by rw [hk]; exact he) (by rw [hk]; exact hc), hk, endSl_empty]
  rfl
theorem end_at (s : ByteArray) (kd : Int) (acc) (t : ByteArray) : (⟨kd, s.size, t, acc, false, false⟩ : Mk) = fin kd t (restAt s s.size acc) := by
  have hk : passTo skipC s s.size = s.size := passTo_end (Nat.le_refl _)
  rw [restAt_end s s.size acc (Nat.le_refl _) (by rw [hk]; exact Nat.le_refl _), hk]
  rfl

/-- In a value in quotes. -/
theorem in6 (s : ByteArray) (kd : Int) (k : Nat) (hk : k < s.size) (st : St) (h6 : st.state = 6) (hv : st.value = ⟨#[]⟩) (hB : ∀ e, k < e → e ≤ s.size → Bet s kd e) :
    fromT s kd (k + 1) st = fin kd st.tname (restAt s (quotedV st.quote s k).2 (st.attrs ++ [(st.name, (quotedV st.quote s k).1)])) := by
  have hr := runs s kd (fun c => c != st.quote) (fun x y => { x with value := x.value ++ y }) (fun x => by simp [append_empty]) (fun x y z => by simp [append_assoc3]) (fun x => x.state = 6 ∧ x.quote = st.quote) (fun x y h => h)
    (fun x c ch h hp => by
      unfold stepT
      rw [h.1]
      simp only
      rw [h.2, if_neg (by simpa using hp)]) _ (k + 1) st rfl (by omega) ⟨h6, rfl⟩
  have h1 := passTo_ge (fun c => c != st.quote) s (k + 1)
  have h2 := passTo_le (fun c => c != st.quote) s (i := k + 1) (by omega)
  rw [hr]
  unfold quotedV
  simp only
  rw [hv]
  generalize hj : passTo (fun c => c != st.quote) s (k + 1) = j at *
  have hes : (⟨#[]⟩ : ByteArray) ++ s.extract (k + 1) j = s.extract (k + 1) j := by
    apply ByteArray.ext
    simp [ByteArray.data_append]
  rw [hes]
  by_cases hjs : j < s.size
  · have hq : byt s j = st.quote := by
      have := passTo_no (fun c => c != st.quote) s _ (k + 1) rfl (by rw [hj]; exact hjs)
      rw [hj] at this
      simpa using this
    rw [if_pos hjs]
    rw [fromT_go s kd j _ { st with attrs := st.attrs ++ [(st.name, s.extract (k + 1) j)], value := s.extract (k + 1) j, state := 1, slash := false } hjs (by
      unfold stepT
      simp only [h6]
      rw [if_pos hq])]
    exact hB (j + 1) (by omega) (by omega) (j + 1) _ (Nat.le_refl _) (by omega) rfl (by rw [endSl_empty]) rfl
  · rw [if_neg hjs]
    obtain rfl : j = s.size := by omega
    rw [fromT_end s kd _ _ (Nat.le_refl _)]
    simp only [h6]
    rw [if_pos (by decide)]
    exact end_at s kd _ _

end Go.Proofs.YtpnbkecchfhimaaGreatDoor
