/- Bytes, told by a ByteArray; runs of bytes; slices of bytes that came in: taken out of chapter 18's texts, of no chapter. -/
import Derived.Test.YtbkjanlkklmleaaBase
import Derived.Test.YtbkjanlkklmleaaProg
import Derived.Test.YtbkjanlkklmleaaMem
import Derived.Test.YtbkjanlkklmleaaWords
import Derived.Test.YtbkjanlkklmleaaOpen
import Derived.BigQuiet
import Derived.Deep.QuietTactic
import Derived.Lib.SlBytesRow
import Derived.Maps.AppendAt
import Derived.Lib.IndexMore
import Derived.Lib.ConvBytes
import Derived.Lib.Bytealg
import Derived.Deep.LoopGhost
import Derived.WalkKit
namespace Go.Proofs.Ytbkjanlkklmleaa
open Go.RowKit
open Go.Lib (hid)
set_option linter.unusedVariables false
set_option maxRecDepth 100000

/-- A byte, as a number. -/
def byt (s : ByteArray) (i : Nat) : Int := ((s.data.getD i 0).toNat : Int)
theorem bytes_cell {w : World} {b o : Nat} {s : ByteArray} (h : Lib.Bytes w b o s) {i : Nat} (hi : i < s.size) : w.cell? ⟨b, o + i, none⟩ = some (.int .u8 (byt s i)) := by
  rw [h i hi]
  unfold byt
  have : s.data.getD i 0 = s[i] := by
    rw [Array.getD_eq_getD_getElem?, Array.getElem?_eq_getElem (by simpa using hi)]
    rfl
  rw [this]
/-- Where the first byte stands, from i on, that is not so. -/
def passGo (p : Int → Bool) (s : ByteArray) : Nat → Nat → Nat
  | 0, i => i
  | k + 1, i => if p (byt s i) = true then passGo p s k (i + 1) else i
def passTo (p : Int → Bool) (s : ByteArray) (i : Nat) : Nat := passGo p s (s.size - i) i
theorem passTo_step {p : Int → Bool} {s : ByteArray} {i : Nat} (h : i < s.size) (hp : p (byt s i) = true) : passTo p s i = passTo p s (i + 1) := by
  unfold passTo
  rw [show s.size - i = (s.size - (i + 1)) + 1 by omega, passGo, if_pos hp]
theorem passTo_stop {p : Int → Bool} {s : ByteArray} {i : Nat} (h : i < s.size) (hp : p (byt s i) = false) : passTo p s i = i := by
  unfold passTo
  rw [show s.size - i = (s.size - (i + 1)) + 1 by omega, passGo, if_neg (by simp [hp])]
theorem passTo_end {p : Int → Bool} {s : ByteArray} {i : Nat} (h : s.size ≤ i) : passTo p s i = i := by
  unfold passTo
  rw [show s.size - i = 0 by omega, passGo]
theorem grown_set (w : World) (g i : Nat) (v : Value) : w.grownBy (w.setCell ⟨g, i, none⟩ v) (some g) :=
  ⟨rfl, rfl, rfl, by simp [World.setCell], fun k _ hne => Below.heap_setCell _ _ _ _ (fun e => hne (by rw [e]))⟩
theorem passGo_ge (p : Int → Bool) (s : ByteArray) : ∀ k i, i ≤ passGo p s k i ∧ passGo p s k i ≤ i + k
  | 0, i => by simp [passGo]
  | k + 1, i => by
    unfold passGo
    split
    · have := passGo_ge p s k (i + 1); omega
    · omega
theorem passTo_ge (p : Int → Bool) (s : ByteArray) (i : Nat) : i ≤ passTo p s i := (passGo_ge p s _ _).1
theorem passTo_le (p : Int → Bool) (s : ByteArray) {i : Nat} (h : i ≤ s.size) : passTo p s i ≤ s.size := by
  have := (passGo_ge p s (s.size - i) i).2
  unfold passTo
  omega
theorem grown_alloc (w : World) (o : Obj) (r : Option Nat) : w.grownBy (w.alloc o) r := ⟨rfl, rfl, rfl, by simp, fun k hk _ => Below.heap_alloc _ _ _ hk⟩
theorem grown_drewN (w : World) (n : Nat) (r : Option Nat) : w.grownBy (w.drewN n) r := ⟨rfl, rfl, rfl, Nat.le_refl _, fun _ _ _ => rfl⟩
theorem Bytes.keepAt {w w' : World} {b off : Nat} {s : ByteArray} (h : Lib.Bytes w b off s) (hk : ∀ k, w'.cell? ⟨b, k, none⟩ = w.cell? ⟨b, k, none⟩) : Lib.Bytes w' b off s := fun k hk' => (hk _).trans (h k hk')
theorem cell_alloc2 {w : World} {b g : Nat} {o : Obj} {u : Value} {i : Nat} (k : Nat) (hb : b < w.heap.size) (hg : b ≠ g) : ((w.setCell ⟨g, i, none⟩ u).alloc o).cell? ⟨b, k, none⟩ = w.cell? ⟨b, k, none⟩ := by
  rw [World.cell?_alloc_lt _ _ _ (by simpa [World.setCell] using hb)]
  exact World.cell?_of_block (w := w) (Below.heap_setCell _ _ _ _ hg)
theorem getB (s : ByteArray) (i : Nat) (h : i < s.size) : s[i].toNat = (byt s i).toNat := by
  have hd : i < s.data.size := h
  unfold byt
  simp only [Array.getD_eq_getD_getElem?, Array.getElem?_eq_getElem hd, Option.getD_some]
  rfl
theorem bytes_of_byt {w : World} {b o : Nat} {s : ByteArray} (h : ∀ i, i < s.size → w.cell? ⟨b, o + i, none⟩ = some (.int .u8 (byt s i))) : Lib.Bytes w b o s := by
  intro i hi
  rw [h i hi]
  have : byt s i = (s[i].toNat : Int) := by
    have := getB s i hi
    have h0 : 0 ≤ byt s i := by unfold byt; omega
    omega
  rw [this]
theorem byt_nonneg (s : ByteArray) (i : Nat) : 0 ≤ byt s i ∧ byt s i ≤ 255 := by
  unfold byt
  have := (s.data.getD i 0).toNat_lt
  omega
theorem bytesWorld_new (w : World) (e : TypeId) (s : ByteArray) : Lib.Bytes (Lib.bytesWorld w e s) w.heap.size 0 s := by
  apply bytes_of_byt
  intro i hi
  rw [Nat.zero_add, Lib.bytesWorld_cell w e s i hi]
  have hd : i < s.data.size := hi
  unfold byt
  simp [Array.getD_eq_getD_getElem?, List.getD]
theorem bytesWorld_free (w : World) (e : TypeId) (s : ByteArray) (i : Nat) (hi : i < s.size) : (Lib.bytesWorld w e s).frozen? ⟨w.heap.size, i, none⟩ = false := by
  have hs : s.size ≤ (Lib.bytesCells w e s).size := by
    simp [Lib.bytesCells]
  simp [World.frozen?, Lib.bytesWorld_at_new]
  omega
theorem bytesWorld_below (w : World) (e : TypeId) (s : ByteArray) : Below w.heap.size w (Lib.bytesWorld w e s) :=
  ⟨rfl, rfl, rfl, by rw [Lib.bytesWorld_size]; omega, fun k hk => Lib.bytesWorld_at_old w e s k hk⟩
theorem own_ge {W : World} {B : Nat} {e : TypeId} {k n : Nat} {v : Value} {xs : List Value} (h : W.ownsRow B e k v n xs) : ∀ g, v.ownBlock = some g → B ≤ g := by
  rcases h.2 with ⟨rfl, _⟩ | ⟨g', cap, cur, rfl, hg, _⟩
  · intro g hg; simp [Value.ownBlock] at hg
  · intro g h; simp [Value.ownBlock] at h; omega
theorem own_lt {w : World} {B : Nat} {e : TypeId} {size n : Nat} {v : Value} {xs : List Value} (h : w.ownsRow B e size v n xs) {k : Nat} (hk : v.ownBlock = some k) : k < w.heap.size := by
  rcases h.2 with ⟨rfl, _⟩ | ⟨g', cap, cur, rfl, _, hh, _⟩
  · simp [Value.ownBlock] at hk
  · have : g' = k := by simpa [Value.ownBlock] using hk
    subst this
    exact (Array.getElem?_eq_some_iff.1 hh).1
theorem own_kept {w w' : World} {B : Nat} {e : TypeId} {size n : Nat} {v : Value} {xs : List Value} (h : w.ownsRow B e size v n xs) {row : Option Nat} (hg : w.grownBy w' row) (hne : ∀ k, v.ownBlock = some k → row ≠ some k) : w'.ownsRow B e size v n xs := by
  refine h.kept hg ?_
  cases hv : v.ownBlock with
  | none => exact .inl rfl
  | some k => exact .inr (Ne.symm (hne k hv))
theorem grown_of_below {w w' : World} (h : Below w.heap.size w w') (r : Option Nat) : w.grownBy w' r := ⟨h.os, h.tape, h.output, h.size, fun k hk _ => h.block k hk⟩
theorem owns_base {W : World} {B B' : Nat} {e : TypeId} {k n : Nat} {v : Value} {xs : List Value} (h : W.ownsRow B e k v n xs) (hB : B' ≤ B) : W.ownsRow B' e k v n xs := by
  refine ⟨h.1, ?_⟩
  rcases h.2 with h2 | ⟨g, cap, cur, hv, hg, r⟩
  · exact .inl h2
  · exact .inr ⟨g, cap, cur, hv, by omega, r⟩
def intsOf (x : ByteArray) : List Int := x.data.toList.map fun b => (b.toNat : Int)
theorem intsOf_len (x : ByteArray) : (intsOf x).length = x.size := by simp [intsOf]
theorem intsOf_get (x : ByteArray) (i : Nat) : (intsOf x).getD i 0 = byt x i := by
  unfold intsOf byt
  rw [List.getD_eq_getElem?_getD, List.getElem?_map, Array.getElem?_toList, Array.getD_eq_getD_getElem?]
  cases x.data[i]? <;> rfl
theorem intsOf_bytes (x : ByteArray) : Lib.bytesOf (intsOf x) = x.data.toList := by
  unfold Lib.bytesOf intsOf
  rw [List.map_map]
  conv => rhs; rw [← List.map_id x.data.toList]
  apply List.map_congr_left
  intro a _
  simp
theorem intsOf_rng (x : ByteArray) : ∀ y ∈ intsOf x, 0 ≤ y ∧ y < 256 := by
  intro y hy
  unfold intsOf at hy
  obtain ⟨a, _, rfl⟩ := List.mem_map.1 hy
  have := a.toNat_lt
  omega
def offIf (cap i off : Nat) : Nat := if cap = i then off else off + i
theorem bytes_tail {w : World} {b off n cap i : Nat} {s : ByteArray} (hn : n = s.size) (hcap : n ≤ cap) (hz : Lib.Bytes w b off s) : ∀ j, j < n - i → w.cell? ⟨b, offIf cap i off + j, none⟩ = some (.int .u8 (byt (s.extract i s.size) j)) := by
  intro j hj
  have hne : ¬ cap = i := by omega
  unfold offIf
  rw [if_neg hne, Nat.add_assoc, bytes_cell hz (i := i + j) (by omega)]
  have : byt (s.extract i s.size) j = byt s (i + j) := by
    unfold byt
    simp only [ByteArray.data_extract, Array.getD_eq_getD_getElem?, Array.getElem?_extract]
    have : s.data.size = s.size := rfl
    rw [if_pos (by omega)]
  rw [this]
/-- s begins s'. -/
def Pre (s s' : ByteArray) : Prop := s.size ≤ s'.size ∧ ∀ i, i < s.size → byt s' i = byt s i
theorem ext_byt {x y : ByteArray} (hs : x.size = y.size) (h : ∀ i, i < x.size → byt x i = byt y i) : x = y := by
  apply ByteArray.ext
  apply Array.ext
  · exact hs
  · intro i h1 h2
    have := h i h1
    unfold byt at this
    simp only [Array.getD_eq_getD_getElem?, Array.getElem?_eq_getElem h1, Array.getElem?_eq_getElem h2, Option.getD_some] at this
    exact UInt8.toNat_inj.1 (by omega)
theorem byt_extract (s : ByteArray) (i j k : Nat) (h : k < j - i) (hj : j ≤ s.size) : byt (s.extract i j) k = byt s (i + k) := by
  have hd : s.data.size = s.size := rfl
  unfold byt
  simp only [ByteArray.data_extract, Array.getD_eq_getD_getElem?, Array.getElem?_extract]
  rw [if_pos (by omega)]
theorem Pre.extract {s s' : ByteArray} (h : Pre s s') {i j : Nat} (hj : j ≤ s.size) : s'.extract i j = s.extract i j := by
  have := h.1
  apply ext_byt
  · rw [ByteArray.size_extract, ByteArray.size_extract]; omega
  · intro k hk
    rw [ByteArray.size_extract] at hk
    rw [byt_extract s' i j k (by omega) (by omega), byt_extract s i j k (by omega) hj]
    exact h.2 _ (by omega)
theorem Pre.pass {s s' : ByteArray} (h : Pre s s') (p : Int → Bool) : ∀ (f i : Nat), s.size - i = f → i ≤ s.size → (passTo p s i < s.size → passTo p s' i = passTo p s i) ∧ (passTo p s i = s.size → s.size ≤ passTo p s' i)
  | 0, i, hf, hi => by
    have : passTo p s i = i := passTo_end (by omega)
    have := passTo_ge p s' i
    exact ⟨fun h => by omega, fun _ => by omega⟩
  | f + 1, i, hf, hi => by
    have hlt : i < s.size := by omega
    have := h.1
    cases hp : p (byt s i)
    · rw [passTo_stop hlt hp, passTo_stop (by omega) (by rw [h.2 i hlt]; exact hp)]
      exact ⟨fun _ => rfl, fun h => by omega⟩
    · rw [passTo_step hlt hp, passTo_step (s := s') (by omega) (by rw [h.2 i hlt]; exact hp)]
      exact Pre.pass h p f (i + 1) (by omega) (by omega)
theorem Pre.pass_lt {s s' : ByteArray} (h : Pre s s') {p : Int → Bool} {i : Nat} (hi : i ≤ s.size) (hl : passTo p s i < s.size) : passTo p s' i = passTo p s i := (h.pass p _ i rfl hi).1 hl
theorem Pre.pass_end {s s' : ByteArray} (h : Pre s s') {p : Int → Bool} {i : Nat} (hi : i ≤ s.size) (hl : ¬ passTo p s i < s.size) : s.size ≤ passTo p s' i := (h.pass p _ i rfl hi).2 (by have := passTo_le p s hi; omega)
def BA (w : World) (a : Option Addr) (n cap : Nat) (s : ByteArray) : Prop :=
  n = s.size ∧ n ≤ cap ∧ cap ≤ 9223372036854775807 ∧ (0 < n → ∃ b off, a = some ⟨b, off, none⟩ ∧ b < w.heap.size ∧ Lib.Bytes w b off s)
theorem BA.below {w w' : World} {a : Option Addr} {n cap B : Nat} {s : ByteArray} (h : BA w a n cap s) (hb : Below B w w') (hB : w.heap.size ≤ B) : BA w' a n cap s :=
  ⟨h.1, h.2.1, h.2.2.1, fun hn => by
    obtain ⟨b, off, e, hbl, hz⟩ := h.2.2.2 hn
    exact ⟨b, off, e, Nat.lt_of_lt_of_le hbl hb.size, Bytes.keepAt hz fun k => World.cell?_of_block (hb.block b (by omega))⟩⟩
/-- The bytes of numbers. -/
def ofInts (zs : List Int) : ByteArray := ⟨(zs.map fun n => UInt8.ofNat n.toNat).toArray⟩
theorem ofInts_size (zs : List Int) : (ofInts zs).size = zs.length := by
  show (zs.map fun n => UInt8.ofNat n.toNat).toArray.size = _
  simp
theorem ofInts_byt (zs : List Int) (hz : ∀ y ∈ zs, 0 ≤ y ∧ y ≤ 255) (i : Nat) (hi : i < zs.length) : byt (ofInts zs) i = zs.getD i 0 := by
  have hy := hz zs[i] (List.getElem_mem hi)
  unfold byt ofInts
  simp [Array.getD_eq_getD_getElem?, List.getD_eq_getElem?_getD, hi]
  omega
theorem ba_of {w : World} {a : Option Addr} {len cap : Nat} {zs : List Int} (h : IsRow .u8 w a len cap zs) : ∃ s : ByteArray, BA w a len cap s := by
  rcases h with ⟨rfl, rfl, rfl, rfl⟩ | ⟨x, rfl, hl, hm, hz, hcell, hwz⟩
  · exact ⟨ofInts [], rfl, Nat.le_refl _, by decide, fun h => absurd h (by decide)⟩
  · have hlen : (zs.take len).length = len := by rw [List.length_take]; omega
    refine ⟨ofInts (zs.take len), by rw [ofInts_size, hlen], hl, by unfold maxLen at hm; omega, fun h0 => ?_⟩
    obtain ⟨b, off, spot⟩ := x
    have hc := hcell 0 (by omega)
    have hspot : spot = none := by simpa [Addr.add] using World.cell?_spot hc
    subst hspot
    refine ⟨b, off, rfl, World.block_lt_of_cell? _ _ hc, ?_⟩
    apply bytes_of_byt
    intro i hi
    rw [ofInts_size, hlen] at hi
    have h1 := hcell i (by omega)
    rw [show (Addr.add ⟨b, off, none⟩ i) = ⟨b, off + i, none⟩ by unfold Addr.add; split <;> simp_all] at h1
    rw [h1, ofInts_byt _ (fun y hy => by
      have := hwz y (List.mem_of_mem_take hy)
      simp only [Lit.wf, IntKind.min, IntKind.max, IntKind.signed, IntKind.bits, Bool.and_eq_true] at this
      simp at this
      omega) i (by omega)]
    simp [hi]
def u8s (s : ByteArray) : List Value := (intsOf s).map (Value.int .u8)
theorem u8s_len (s : ByteArray) : (u8s s).length = s.size := by simp [u8s, intsOf_len]
theorem u8s_get (s : ByteArray) (i : Nat) (h : i < s.size) : (u8s s)[i]? = some (.int .u8 (byt s i)) := by
  unfold u8s
  rw [List.getElem?_map, List.getElem?_eq_getElem (by rw [intsOf_len]; exact h), ← intsOf_get, List.getD_eq_getElem?_getD, List.getElem?_eq_getElem (by rw [intsOf_len]; exact h)]
  rfl
theorem u8s_append (s r : ByteArray) : u8s (s ++ r) = u8s s ++ u8s r := by
  unfold u8s intsOf
  rw [← List.map_append, ← List.map_append]
  congr 2
theorem u8s_one (s : ByteArray) : ∀ u ∈ u8s s, u.oneCell' = true := by
  intro u hu
  obtain ⟨a, _, rfl⟩ := List.mem_map.1 hu
  rfl
theorem BA.reads {w : World} {a : Option Addr} {n cap : Nat} {s : ByteArray} (h : BA w a n cap s) : Reads w w.heap.size 1 a n (u8s s) := by
  refine ⟨by rw [u8s_len, h.1, Nat.mul_one], fun hn => ?_⟩
  obtain ⟨b, off, rfl, hb, hz⟩ := h.2.2.2 hn
  refine ⟨_, rfl, hb, fun j u hu => ?_⟩
  have hj : j < s.size := by
    have := (List.getElem?_eq_some_iff.1 hu).1
    rwa [u8s_len] at this
  rw [u8s_get s j hj] at hu
  cases hu
  rw [show (Addr.add ⟨b, off, none⟩ j) = ⟨b, off + j, none⟩ by unfold Addr.add; split <;> simp_all]
  exact bytes_cell hz hj
theorem BA.of_own {W : World} {B n c : Nat} {e : TypeId} {A : Option Addr} {s : ByteArray} (h : W.ownsRow B e 1 (.slice A n c) n (u8s s)) : BA W A n c s := by
  have hl := h.1
  rw [u8s_len, Nat.mul_one] at hl
  obtain ⟨a, c', hv, h1, h2, hc⟩ := owns_form h
  injection hv with hA _ hcc
  subst hA hcc
  refine ⟨hl.symm, h1, by unfold maxLen at h2; omega, fun hn => ?_⟩
  obtain ⟨g, rfl, _, hg, hcell⟩ := hc hn
  refine ⟨g, 0, rfl, hg, ?_⟩
  apply bytes_of_byt
  intro i hi
  rw [Nat.zero_add, hcell i (by omega), u8s_get s i hi]
theorem owns_empty (w : World) (e : TypeId) (k : Nat) : (w.alloc (.cells #[] e)).ownsRow w.heap.size e k (.slice (some ⟨w.heap.size, 0, none⟩) 0 0) 0 [] :=
  ⟨by simp, .inr ⟨w.heap.size, 0, #[], rfl, Nat.le_refl _, heap_alloc_new w _, Nat.le_refl _, Nat.zero_le _, by simp, by simp⟩⟩
theorem owns_slice {W : World} {B : Nat} {e : TypeId} {k n : Nat} {v : Value} {xs : List Value} (h : W.ownsRow B e k v n xs) : ∃ A c, v = .slice A n c := by
  obtain ⟨a, c, hv, _⟩ := owns_form h
  exact ⟨a, c, hv⟩
theorem info_u8 : (Try.prog.info? 5).map (fun i => (i.zero, i.size, i.bytes)) = some (some (.int .u8 0), 1, 1) := by kernel_rfl
theorem byt_left (x y : ByteArray) (i : Nat) (h : i < x.size) : byt (x ++ y) i = byt x i := by
  unfold byt
  have h1 : i < x.data.size := h
  rw [Array.getD_eq_getD_getElem?, Array.getD_eq_getD_getElem?, ByteArray.data_append, Array.getElem?_append_left h1]
theorem byt_right (x y : ByteArray) (j : Nat) : byt (x ++ y) (x.size + j) = byt y j := by
  unfold byt
  have h1 : x.data.size ≤ x.size + j := Nat.le_add_right _ _
  rw [Array.getD_eq_getD_getElem?, Array.getD_eq_getD_getElem?, ByteArray.data_append, Array.getElem?_append_right h1]
  rw [show x.size + j - x.data.size = j from Nat.add_sub_cancel_left _ _]
theorem Pre.left (x y : ByteArray) : Pre x (x ++ y) := ⟨by rw [ByteArray.size_append]; omega, fun i hi => byt_left x y i hi⟩
theorem Pre.trans {x y z : ByteArray} (h : Pre x y) (k : Pre y z) : Pre x z := ⟨Nat.le_trans h.1 k.1, fun i hi => (k.2 i (Nat.lt_of_lt_of_le hi h.1)).trans (h.2 i hi)⟩
theorem Pre.at {x y t : ByteArray} (h : Pre (x ++ y) t) (j : Nat) (hj : j < y.size) : byt t (x.size + j) = byt y j := by
  rw [h.2 _ (by rw [ByteArray.size_append]; omega), byt_right]
theorem Pre.size_at {x y t : ByteArray} (h : Pre (x ++ y) t) : x.size + y.size ≤ t.size := by
  have := h.1
  rwa [ByteArray.size_append] at this
theorem Pre.piece {x y t : ByteArray} (h : Pre (x ++ y) t) : t.extract x.size (x.size + y.size) = y := by
  have hs := h.size_at
  apply ext_byt
  · rw [ByteArray.size_extract]; omega
  · intro j hj
    rw [ByteArray.size_extract] at hj
    rw [byt_extract t _ _ j (by omega) hs, h.at j (by omega)]
theorem ext_append (s : ByteArray) (i j k : Nat) (h1 : i ≤ j) (h2 : j ≤ k) (h3 : k ≤ s.size) : s.extract i j ++ s.extract j k = s.extract i k := by
  apply ByteArray.ext
  rw [ByteArray.data_append]
  simp only [ByteArray.data_extract]
  rw [Array.extract_append_extract, Nat.min_eq_left h1, Nat.max_eq_right h2]
theorem ext_self (s : ByteArray) (i : Nat) : s.extract i i = ⟨#[]⟩ := by
  apply ByteArray.ext
  simp
theorem append_empty (x : ByteArray) : x ++ ⟨#[]⟩ = x := by
  apply ByteArray.ext
  simp [ByteArray.data_append]
theorem append_assoc3 (x y z : ByteArray) : x ++ y ++ z = x ++ (y ++ z) := by
  apply ByteArray.ext
  simp [ByteArray.data_append]
theorem empty_append (x : ByteArray) : (⟨#[]⟩ : ByteArray) ++ x = x := by
  apply ByteArray.ext
  simp [ByteArray.data_append]
theorem byt_out (s : ByteArray) (i : Nat) (h : s.size ≤ i) : byt s i = 0 := by
  unfold byt
  have hd : s.data.size ≤ i := h
  rw [Array.getD_eq_getD_getElem?, Array.getElem?_eq_none hd]
  rfl

end Go.Proofs.Ytbkjanlkklmleaa
