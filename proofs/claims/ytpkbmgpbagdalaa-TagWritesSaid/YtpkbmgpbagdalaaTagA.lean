/- Chapter 18: the reader's attribute. -/
import Derived.WalkKit
import Derived.BigQuiet
import Derived.BigRegion
import Derived.Deep.DeepCutAuto
import Derived.Test.YtpkbmgpbagdalaaTagLow
import Derived.Test.YtpkbmgpbagdalaaInv
import Derived.Laws.CopyOwn
import Derived.Laws.Tables
namespace Go.Proofs.Ytpkbmgpbagdalaa
open Go.RowKit
open Go.Lib (hid)
set_option linter.unusedVariables false

/-- The value of what begins at k, if that is a =. -/
def valueAt (s : ByteArray) (k : Nat) : ByteArray × Nat := if k < s.size ∧ byt s k = 61 then valueV s k else (⟨#[]⟩, k)
/-- Where an attribute's name ends that begins at i; the attribute, and where what is behind it begins. -/
def nameEnd (s : ByteArray) (i : Nat) : Nat := passTo attrC s (i + 1)
def attrV (s : ByteArray) (i : Nat) : (ByteArray × ByteArray) × Nat :=
  let r := valueAt s (passTo blankB s (nameEnd s i))
  ((lowerB (s.extract i (nameEnd s i)), r.1), r.2)

/-- A reader's cells. -/
def rdr (b off n cap i : Nat) (kd sz : Int) (nm : ByteArray) (v : Value) (sg cl : Bool) : Array Value :=
  #[.slice (some ⟨b, off, none⟩) n cap, .int .i64 i, .int .i64 kd, .int .i64 sz, .string nm, v, .bool sg, .bool cl]

theorem slice_row (b off n cap i E : Nat) (hiE : i ≤ E) (hE : E ≤ cap) (hne : ¬ cap = i) (W : World) : (Instr.slice 22 (.slice (some ⟨b, off, none⟩) n cap) (some (.int .i64 i)) (some (.int .i64 E)) none).run Try.prog W = .ok (.slice (some ⟨b, off + i, none⟩) (E - i) (cap - i)) W := by
  rw [run_slice_lh (P := Try.prog) W 22 _ n cap rfl .i64 .i64 i E (by omega) (by omega) (by omega)]
  have hs : (sizeOf (Try.prog.elem 22)).run Try.prog W = .ok 1 W := by go_simp
  rw [hs]
  simp only [Result.andThen, sliced, Int.toNat_natCast, if_neg hne, Option.map_some, Nat.mul_one]
  simp [Addr.add]
/-- The next byte; 0: there is none. -/
def pk (s : ByteArray) (k : Nat) : Int := if k < s.size then byt s k else 0
theorem peek_any (g b off cap k : Nat) (s : ByteArray) (n : Nat) (hn : n = s.size) (w : World) (hz : Lib.Bytes w b off s) (h : PlaceAt w g b off n cap k) : Calls Try.prog 50 #[.pointer (some ⟨g, 0, none⟩)] w fun e w' => e = .returned (.int .u8 (pk s k)) ∧ ∃ q, w' = w.drewN q := by
  unfold pk
  by_cases hlt : k < s.size
  · rw [if_pos hlt]
    exact peek_in g b off n cap k _ w h (by omega) (bytes_cell hz hlt)
  · rw [if_neg hlt]
    exact peek_out g b off n cap k w h (by omega)
theorem own_ge {W : World} {B : Nat} {e : TypeId} {k n : Nat} {v : Value} {xs : List Value} (h : W.ownsRow B e k v n xs) : ∀ g, v.ownBlock = some g → B ≤ g := by
  rcases h.2 with ⟨rfl, _⟩ | ⟨g', cap, cur, rfl, hg, _⟩
  · intro g hg; simp [Value.ownBlock] at hg
  · intro g h; simp [Value.ownBlock] at h; omega
theorem own_lt {w : World} {B : Nat} {e : TypeId} {size n : Nat} {v : Value} {xs : List Value} (h : w.ownsRow B e size v n xs) {k : Nat} (hk : v.ownBlock = some k) : k < w.heap.size := by
  rcases h.2 with ⟨rfl, _⟩ | ⟨g', cap, cur, rfl, _, hh, _⟩
  · simp [Value.ownBlock] at hk
  · have : g' = k := by simpa [Value.ownBlock] using hk
    subst this
    exact (Array.getElem?_eq_some_iff.1 hh).1
theorem own_kept {w w' : World} {B : Nat} {e : TypeId} {size n : Nat} {v : Value} {xs : List Value} (h : w.ownsRow B e size v n xs) {row : Option Nat} (hg : w.grownBy w' row) (hne : ∀ k, v.ownBlock = some k → row ≠ some k) : w'.ownsRow B e size v n xs := by
  refine h.kept hg ?_
  cases hv : v.ownBlock with
  | none => exact .inl rfl
  | some k => exact .inr (Ne.symm (hne k hv))
theorem own_drewN {w : World} {B : Nat} {e : TypeId} {size n : Nat} {v : Value} {xs : List Value} (h : w.ownsRow B e size v n xs) (k : Nat) : (w.drewN k).ownsRow B e size v n xs :=
  own_kept h (grown_drewN w k none) fun _ _ e => by cases e
theorem info_attr : (Try.prog.info? 38).map (fun i => (i.zero, i.size, i.bytes)) = some (some (.agg #[.string ⟨#[]⟩, .string ⟨#[]⟩]), 2, 32) := by kernel_rfl
theorem reads_blk2 {w : World} {q : Nat} {t : TypeId} {x y : Value} (h : Blk w q t #[x, y]) : Reads w w.heap.size 2 (some ⟨q, 0, none⟩) 1 [x, y] := by
  refine ⟨rfl, fun _ => ⟨_, rfl, h.lt, fun j u hu => ?_⟩⟩
  have e : (Addr.add ⟨q, 0, none⟩ j) = ⟨q, j, none⟩ := by unfold Addr.add; split <;> simp_all
  rw [e, h.cell j]
  simpa using hu
theorem grown_of_below {w w' : World} (h : Below w.heap.size w w') (r : Option Nat) : w.grownBy w' r := ⟨h.os, h.tape, h.output, h.size, fun k hk _ => h.block k hk⟩
theorem below_of_grown {B g : Nat} {w w' : World} (h : w.grownBy w' (some g)) (hB : B ≤ g) (hs : B ≤ w.heap.size) : Below B w w' :=
  ⟨h.1, h.2, h.3, h.size, fun k hk => h.block k (by omega) (fun e => by have := Option.some.inj e; omega)⟩
theorem keep_at {l : Bool} {x : Value} {base : Nat} {w w1 : World} {c : Nat → Obj} {c1 : Nat → Obj} (hcc : c = c1) (h : l = true → ∃ p, x = .pointer (some ⟨p, 0, none⟩) ∧ base ≤ p ∧ w.heap[p]? = some (c p)) (hk : ∀ k, k < w.heap.size → w1.heap[k]? = w.heap[k]?) :
    l = true → ∃ p, x = .pointer (some ⟨p, 0, none⟩) ∧ base ≤ p ∧ w1.heap[p]? = some (c1 p) := by
  subst hcc
  intro hl
  obtain ⟨p, h1, h2, h3⟩ := h hl
  exact ⟨p, h1, h2, (hk p (Array.getElem?_eq_some_iff.1 h3).1).trans h3⟩

def attrInv (g b off n cap i E : Nat) (s txt : ByteArray) (w1 : World) (L : Array Bool) (a : Act) (w' : World) : Prop :=
  ∃ (l0 l1 l2 l3 l4 l5 l6 l7 l8 l9 l10 l11 l12 l13 l14 l15 l16 : Bool) (x3 x22 x23 x24 x25 x26 x27 x28 x29 x30 x31 x32 x33 x34 x35 x36 : Value), L = #[l0, l1, l2, l3, l4, l5, l6, l7, l8, l9, l10, l11, l12, l13, l14, l15, l16] ∧ a = { tmps := #[.pointer (some ⟨g, 0, none⟩), undef, .int .i64 i, x3, .pointer (some ⟨g, 0, none⟩), .pointer (some ⟨g, 0, none⟩), .pointer (some ⟨g, 0, none⟩), .pointer (some ⟨g, 1, none⟩), .int .i64 i, .pointer (some ⟨g, 0, none⟩), .pointer (some ⟨g, 0, none⟩), .pointer (some ⟨g, 0, none⟩), .pointer (some ⟨g, 1, none⟩), .int .i64 i, .int .i64 ((i : Int) + 1), .pointer (some ⟨g, 0, none⟩), .pointer (some ⟨g, 0, none⟩), .pointer (some ⟨g, 1, none⟩), .pointer (some ⟨g, 0, none⟩), .pointer (some ⟨g, 0, none⟩), .pointer (some ⟨g, 0, none⟩), .string txt, x22, x23, x24, x25, x26, x27, x28, x29, x30, x31, x32, x33, x34, x35, x36, undef, undef, undef, undef, undef, undef, undef, undef, undef, undef, undef, undef, undef, undef, undef, undef, undef, undef, undef, undef, undef, undef, undef, undef], defers := [] } ∧
    Hid (l0 = true → x22 = .pointer (some ⟨g, 0, none⟩)) ∧
    Hid (l1 = true → x23 = .pointer (some ⟨g, 0, none⟩)) ∧
    Hid (l2 = true → x24 = .pointer (some ⟨g, 0, none⟩)) ∧
    Hid (l3 = true → x25 = .pointer (some ⟨g, 0, none⟩)) ∧
    Hid (l4 = true → x26 = .slice (some ⟨b, off, none⟩) n cap) ∧
    Hid (l5 = true → x27 = .int .i64 i) ∧
    Hid (l6 = true → x28 = .pointer (some ⟨g, 0, none⟩)) ∧
    Hid (l7 = true → x29 = .pointer (some ⟨g, 0, none⟩)) ∧
    Hid (l8 = true → x30 = .pointer (some ⟨g, 0, none⟩)) ∧
    Hid (l9 = true → x31 = .pointer (some ⟨g, 1, none⟩)) ∧
    Hid (l10 = true → x32 = .int .i64 E) ∧
    Hid (l11 = true → x33 = .slice (some ⟨b, off + i, none⟩) (E - i) (cap - i)) ∧
    Hid (l12 = true → x34 = .string (s.extract i E)) ∧
    Hid (l13 = true → x35 = .string (lowerB (s.extract i E))) ∧
    Hid (l14 = true → x36 = .agg #[.string (lowerB (s.extract i E)), .string ⟨#[]⟩]) ∧
    Hid (l15 = true → ∃ p, x3 = .pointer (some ⟨p, 0, none⟩) ∧ w1.heap.size ≤ p ∧ w'.heap[p]? = some (.cells (if l16 then #[.string (lowerB (s.extract i E)), .string ⟨#[]⟩] else #[.string ⟨#[]⟩, .string ⟨#[]⟩]) 38 (0, 0))) ∧
    Hid (l16 = true → l15 = true) ∧
    Hid (Below w1.heap.size w1 w') ∧
    Hid (w1.heap.size ≤ w'.heap.size)

def attrInv7 (B g b off n cap i k p : Nat) (kd sz : Int) (nm : ByteArray) (v : Value) (sg cl : Bool) (m : Nat) (xs : List Value) (tn tv : ByteArray) (u4 u5 u6 u7 u8 u9 u10 u11 u12 u13 u14 u15 u16 u17 u18 u19 u20 u21 u22 u23 u24 u25 u26 u27 u28 u29 u30 u31 u32 u33 u34 u35 u36 u37 u38 u39 u40 u41 u42 u43 u44 u45 u46 u47 u48 : Value) (w : World) (L : Array Bool) (a : Act) (w' : World) : Prop :=
  ∃ (l0 l1 l2 l3 l4 l5 l6 l7 l8 l9 l10 l11 l12 : Bool) (x49 x50 x51 x52 x53 x54 x55 x56 x57 x58 x59 x60 : Value), L = #[l0, l1, l2, l3, l4, l5, l6, l7, l8, l9, l10, l11, l12] ∧ a = { tmps := #[.pointer (some ⟨g, 0, none⟩), undef, .int .i64 i, .pointer (some ⟨p, 0, none⟩), u4, u5, u6, u7, u8, u9, u10, u11, u12, u13, u14, u15, u16, u17, u18, u19, u20, u21, u22, u23, u24, u25, u26, u27, u28, u29, u30, u31, u32, u33, u34, u35, u36, u37, u38, u39, u40, u41, u42, u43, u44, u45, u46, u47, u48, x49, x50, x51, x52, x53, x54, x55, x56, x57, x58, x59, x60], defers := [] } ∧
    Hid (l0 = true → x49 = .pointer (some ⟨g, 0, none⟩)) ∧
    Hid (l1 = true → x50 = .pointer (some ⟨g, 0, none⟩)) ∧
    Hid (l2 = true → x51 = .pointer (some ⟨g, 0, none⟩)) ∧
    Hid (l3 = true → x52 = .pointer (some ⟨g, 2, none⟩)) ∧
    Hid (l4 = true → x53 = .pointer (some ⟨g, 5, none⟩)) ∧
    Hid (l5 = true → x54 = v) ∧
    Hid (l6 = true → x55 = .agg #[.string tn, .string tv]) ∧
    Hid (l7 = true → ∃ q, x56 = .slice (some ⟨q, 0, none⟩) 1 1 ∧ Blk w' q 38 #[.string tn, .string tv] ∧ (l8 = false → v.ownBlock ≠ some q)) ∧
    Hid (l8 = true → w'.ownsRow B 38 2 x57 (m + 1) (xs ++ [.string tn, .string tv])) ∧
    Hid (l9 = true → x58 = .pointer (some ⟨g, 0, none⟩)) ∧
    Hid (l10 = true → x59 = .pointer (some ⟨g, 2, none⟩)) ∧
    Hid (l11 = true → x60 = .pointer (some ⟨g, 5, none⟩)) ∧
    Hid (l12 = true → Blk w' g 62 (rdr b off n cap k kd sz nm x57 sg cl)) ∧
    Hid (Below B w w') ∧
    Hid (l8 = false → w'.ownsRow B 38 2 v m xs) ∧
    Hid (l12 = false → Blk w' g 62 (rdr b off n cap k kd sz nm v sg cl)) ∧
    Hid (Blk w' p 38 #[.string tn, .string tv]) ∧
    Hid (B ≤ w'.heap.size) ∧
    Hid (l8 = true → l5 = true ∧ l7 = true) ∧
    Hid (l12 = true → l8 = true)

set_option maxRecDepth 100000 in
set_option maxHeartbeats 4000000 in
theorem attr_any (B g b off n cap i : Nat) (kd sz : Int) (nm : ByteArray) (v : Value) (sg cl : Bool) (m : Nat) (xs : List Value) (s : ByteArray) (hn : n = s.size) (hi : i < n) (hcap : n ≤ cap) (hc63 : cap ≤ 9223372036854775807)
    (hm : m ≤ 1048576) (w : World) (hbB : b < B) (hgB : B ≤ g) (hz : Lib.Bytes w b off s) (hblk : Blk w g 62 (rdr b off n cap i kd sz nm v sg cl)) (hown : w.ownsRow B 38 2 v m xs) :
    Calls Try.prog 52 #[.pointer (some ⟨g, 0, none⟩)] w fun e w' =>
      e = .returned (.tuple #[]) ∧ Below B w w' ∧ ∃ v', Blk w' g 62 (rdr b off n cap (attrV s i).2 kd sz nm v' sg cl) ∧ w'.ownsRow B 38 2 v' (m + 1) (xs ++ [.string (attrV s i).1.1, .string (attrV s i).1.2]) := by
  have hgl := hblk.lt
  have hb : b ≠ g := by omega
  have hbl : b < w.heap.size := by omega
  have hpass := fun (w1 : World) (h2 : b < w1.heap.size) (h3 : Lib.Bytes w1 b off s) (h4 : Blk w1 g 62 (rdr b off n cap (i + 1) kd sz nm v sg cl)) =>
    pass_any 62 g b off n cap (i + 1) _ s hn (by omega) hcap hc63 62 #[] attrC (fun _ => True) w1 (fun args w => by kernel_rfl)
      (fun W c _ => attr1_any c W) (fun W' hW' => trivial) hb h2 h3 h4
  have HPASS := hid hpass
  have HZ := hid hz
  have HBK := hid hblk
  have HN := hid hn
  have c0 := hblk.cell 0
  have c1 := hblk.cell 1
  have fr := hblk.frozen
  simp only [rdr, List.getElem?_toArray, List.getElem?_cons_zero, List.getElem?_cons_succ] at c0 c1
  have hi1 : (i : Int) + 1 ≤ 9223372036854775807 := by omega
  clear hpass hz hblk hn
  go_enter Try.func52, Try.ntmps52
  go_wp2_with fail
  have hw0 := HBK.out.set_ 1 (.int .i64 ((i + 1 : Nat) : Int))
  have hbd : Blk (w.setCell ⟨g, 1, none⟩ (.int .i64 ((i : Int) + 1))) g 62 (rdr b off n cap (i + 1) kd sz nm v sg cl) := by
    simpa [rdr] using hw0
  have hbs : ∀ k, (w.setCell ⟨g, 1, none⟩ (.int .i64 ((i : Int) + 1))).cell? ⟨b, k, none⟩ = w.cell? ⟨b, k, none⟩ := fun k => World.cell?_of_block (w := w) (Below.heap_setCell _ _ _ _ hb)
  refine (HPASS.out _ (by rw [size_set]; exact hbl) (Bytes.keepAt HZ.out hbs) hbd).mono ?_
  clear hw0 hbd hbs
  rintro e w1 ⟨rfl, hG1, hB1⟩
  have hbl1 : b < w1.heap.size := Nat.lt_of_lt_of_le hbl (by have := hG1.size; rwa [size_set] at this)
  have hgl1 : g < w1.heap.size := hB1.lt
  have hrow : ∀ k, v.ownBlock = some k → k ≠ g := fun k hk e => own_blk_ne hown HBK.out (by decide) (by rw [hk, e])
  have hown1 : w1.ownsRow B 38 2 v m xs := own_kept hown ((grown_set w g 1 (.int .i64 ((i : Int) + 1))).trans hG1) fun k hk e => hrow k hk (Option.some.inj e).symm
  have HOWN1 := hid hown1
  have HROW := hid hrow
  have HB1B := hid ((Below.setCell (p := ⟨g, 1, none⟩) (Below.refl B w) hgB (.int .i64 ((i : Int) + 1))).trans (below_of_grown hG1 hgB (by rw [size_set]; omega)))
  have HZ1 := hid (Bytes.keepAt HZ.out fun k => (World.cell?_of_block (HB1B.out.block b hbB)))
  have hE := passTo_ge attrC s (i + 1)
  have hE2 := passTo_le attrC s (i := i + 1) (by have := HN.out; omega)
  have HA : Hid (attrV s i = ((lowerB (s.extract i (passTo attrC s (i + 1))), (valueAt s (passTo blankB s (passTo attrC s (i + 1)))).1), (valueAt s (passTo blankB s (passTo attrC s (i + 1)))).2)) := rfl
  generalize passTo attrC s (i + 1) = E at hB1 hE hE2 HA ⊢
  generalize s.extract (i + 1) E = txt at *
  have hcv : ∀ (W : World), Below w1.heap.size w1 W → ∀ cap', (convert 22 9 (.slice (some ⟨b, off + i, none⟩) (E - i) cap')).run Try.prog W = .ok (.string (s.extract i E)) W := by
    intro W hW cap'
    have hWz : Lib.Bytes W b off s := Bytes.keepAt HZ1.out fun k => World.cell?_of_block (hW.block b hbl1)
    have := Lib.run_convert_window (P := Try.prog) W 22 5 9 Try.underlying22 Try.underlying5 Try.underlying9 b off s hWz i (E - i) cap' (by omega)
    rwa [show i + (E - i) = E by omega] at this
  have HCV := hid hcv
  have hEn : E ≤ n := by have := HN.out; omega
  have hsl : ∀ W, (Instr.slice 22 (.slice (some ⟨b, off, none⟩) n cap) (some (.int .i64 i)) (some (.int .i64 E)) none).run Try.prog W = .ok (.slice (some ⟨b, off + i, none⟩) (E - i) (cap - i)) W := by
    exact slice_row b off n cap i E (by omega) (by omega) (by omega)
  have HSL := hid hsl
  have HLE := hid (show (s.extract i E).size ≤ 9223372036854775807 by rw [ByteArray.size_extract]; have := HN.out; omega)
  have HB1 := hid hB1
  have c0 := hB1.cell 0
  have c1 := hB1.cell 1
  simp only [List.getElem?_toArray, List.getElem?_cons_zero, List.getElem?_cons_succ] at c0 c1
  clear hcv hsl hG1 hB1 fr hown hown1 hrow
  go_upto_region 3 with fail
  refine wp_region_inv (attrInv g b off n cap i E s txt w1) rfl (by kernel_rfl) ?h0 ?hstep ?hend
  case h0 =>
    exact ⟨false, false, false, false, false, false, false, false, false, false, false, false, false, false, false, false, false, undef, undef, undef, undef, undef, undef, undef, undef, undef, undef, undef, undef, undef, undef, undef, undef, rfl, rfl, (fun h => by cases h), (fun h => by cases h), (fun h => by cases h), (fun h => by cases h), (fun h => by cases h), (fun h => by cases h), (fun h => by cases h), (fun h => by cases h), (fun h => by cases h), (fun h => by cases h), (fun h => by cases h), (fun h => by cases h), (fun h => by cases h), (fun h => by cases h), (fun h => by cases h), (fun h => by cases h), (fun h => by cases h), (below_drewN _ _ 1), (Nat.le_refl _)⟩
  case hstep =>
    rintro L a w' ix o ⟨l0, l1, l2, l3, l4, l5, l6, l7, l8, l9, l10, l11, l12, l13, l14, l15, l16, x3, x22, x23, x24, x25, x26, x27, x28, x29, x30, x31, x32, x33, x34, x35, x36, rfl, rfl, H0, H1, H2, H3, H4, H5, H6, H7, H8, H9, H10, H11, H12, H13, H14, H15, H16, HB, HSZ⟩ ho hl haf
    rcases ix with _ | _ | _ | _ | _ | _ | _ | _ | _ | _ | _ | _ | _ | _ | _ | _ | _ | ix
    · obtain rfl : _ = o := Option.some.inj ho
      obtain ⟨hc, hf⟩ := bcell HB.out
      go_wp2_with fail
      exact ⟨true, _, _, _, _, _, _, _, _, _, _, _, _, _, _, _, _, _, _, _, _, _, _, _, _, _, _, _, _, _, _, _, _, rfl, rfl, (fun _ => rfl), H1, H2, H3, H4, H5, H6, H7, H8, H9, H10, H11, H12, H13, H14, H15, H16, HB, HSZ⟩
    · obtain rfl : _ = o := Option.some.inj ho
      obtain ⟨hc, hf⟩ := bcell HB.out
      have d0 : l0 = true := haf ⟨0, .data⟩ (by simp) rfl
      obtain rfl := H0.out d0
      go_wp2_with fail
      exact ⟨_, true, _, _, _, _, _, _, _, _, _, _, _, _, _, _, _, _, _, _, _, _, _, _, _, _, _, _, _, _, _, _, _, rfl, rfl, (fun _ => rfl), (fun _ => rfl), H2, H3, H4, H5, H6, H7, H8, H9, H10, H11, H12, H13, H14, H15, H16, HB, HSZ⟩
    · obtain rfl : _ = o := Option.some.inj ho
      obtain ⟨hc, hf⟩ := bcell HB.out
      have d1 : l1 = true := haf ⟨1, .data⟩ (by simp) rfl
      obtain rfl := H1.out d1
      go_wp2_with fail
      exact ⟨_, _, true, _, _, _, _, _, _, _, _, _, _, _, _, _, _, _, _, _, _, _, _, _, _, _, _, _, _, _, _, _, _, rfl, rfl, H0, (fun _ => rfl), (fun _ => rfl), H3, H4, H5, H6, H7, H8, H9, H10, H11, H12, H13, H14, H15, H16, HB, HSZ⟩
    · obtain rfl : _ = o := Option.some.inj ho
      obtain ⟨hc, hf⟩ := bcell HB.out
      have d2 : l2 = true := haf ⟨2, .data⟩ (by simp) rfl
      obtain rfl := H2.out d2
      go_wp2_with fail
      exact ⟨_, _, _, true, _, _, _, _, _, _, _, _, _, _, _, _, _, _, _, _, _, _, _, _, _, _, _, _, _, _, _, _, _, rfl, rfl, H0, H1, (fun _ => rfl), (fun _ => rfl), H4, H5, H6, H7, H8, H9, H10, H11, H12, H13, H14, H15, H16, HB, HSZ⟩
    · obtain rfl : _ = o := Option.some.inj ho
      obtain ⟨hc, hf⟩ := bcell HB.out
      have d3 : l3 = true := haf ⟨3, .data⟩ (by simp) rfl
      obtain rfl := H3.out d3
      go_wp2_with fail
      exact ⟨_, _, _, _, true, _, _, _, _, _, _, _, _, _, _, _, _, _, _, _, _, _, _, _, _, _, _, _, _, _, _, _, _, rfl, rfl, H0, H1, H2, (fun _ => rfl), (fun _ => rfl), H5, H6, H7, H8, H9, H10, H11, H12, H13, H14, H15, H16, HB, HSZ⟩
    · obtain rfl : _ = o := Option.some.inj ho
      obtain ⟨hc, hf⟩ := bcell HB.out
      go_wp2_with fail
      exact ⟨_, _, _, _, _, true, _, _, _, _, _, _, _, _, _, _, _, _, _, _, _, _, _, _, _, _, _, _, _, _, _, _, _, rfl, rfl, H0, H1, H2, H3, H4, (fun _ => rfl), H6, H7, H8, H9, H10, H11, H12, H13, H14, H15, H16, HB, HSZ⟩
    · obtain rfl : _ = o := Option.some.inj ho
      obtain ⟨hc, hf⟩ := bcell HB.out
      go_wp2_with fail
      exact ⟨_, _, _, _, _, _, true, _, _, _, _, _, _, _, _, _, _, _, _, _, _, _, _, _, _, _, _, _, _, _, _, _, _, rfl, rfl, H0, H1, H2, H3, H4, H5, (fun _ => rfl), H7, H8, H9, H10, H11, H12, H13, H14, H15, H16, HB, HSZ⟩
    · obtain rfl : _ = o := Option.some.inj ho
      obtain ⟨hc, hf⟩ := bcell HB.out
      have d6 : l6 = true := haf ⟨6, .data⟩ (by simp) rfl
      obtain rfl := H6.out d6
      go_wp2_with fail
      exact ⟨_, _, _, _, _, _, _, true, _, _, _, _, _, _, _, _, _, _, _, _, _, _, _, _, _, _, _, _, _, _, _, _, _, rfl, rfl, H0, H1, H2, H3, H4, H5, (fun _ => rfl), (fun _ => rfl), H8, H9, H10, H11, H12, H13, H14, H15, H16, HB, HSZ⟩
    · obtain rfl : _ = o := Option.some.inj ho
      obtain ⟨hc, hf⟩ := bcell HB.out
      have d7 : l7 = true := haf ⟨7, .data⟩ (by simp) rfl
      obtain rfl := H7.out d7
      go_wp2_with fail
      exact ⟨_, _, _, _, _, _, _, _, true, _, _, _, _, _, _, _, _, _, _, _, _, _, _, _, _, _, _, _, _, _, _, _, _, rfl, rfl, H0, H1, H2, H3, H4, H5, H6, (fun _ => rfl), (fun _ => rfl), H9, H10, H11, H12, H13, H14, H15, H16, HB, HSZ⟩
    · obtain rfl : _ = o := Option.some.inj ho
      obtain ⟨hc, hf⟩ := bcell HB.out
      have d8 : l8 = true := haf ⟨8, .data⟩ (by simp) rfl
      obtain rfl := H8.out d8
      go_wp2_with fail
      exact ⟨_, _, _, _, _, _, _, _, _, true, _, _, _, _, _, _, _, _, _, _, _, _, _, _, _, _, _, _, _, _, _, _, _, rfl, rfl, H0, H1, H2, H3, H4, H5, H6, H7, (fun _ => rfl), (fun _ => rfl), H10, H11, H12, H13, H14, H15, H16, HB, HSZ⟩
    · obtain rfl : _ = o := Option.some.inj ho
      obtain ⟨hc, hf⟩ := bcell HB.out
      have d9 : l9 = true := haf ⟨9, .data⟩ (by simp) rfl
      obtain rfl := H9.out d9
      go_wp2_with fail
      exact ⟨_, _, _, _, _, _, _, _, _, _, true, _, _, _, _, _, _, _, _, _, _, _, _, _, _, _, _, _, _, _, _, _, _, rfl, rfl, H0, H1, H2, H3, H4, H5, H6, H7, H8, (fun _ => rfl), (fun _ => rfl), H11, H12, H13, H14, H15, H16, HB, HSZ⟩
    · obtain rfl : _ = o := Option.some.inj ho
      obtain ⟨hc, hf⟩ := bcell HB.out
      have d4 : l4 = true := haf ⟨4, .data⟩ (by simp) rfl
      obtain rfl := H4.out d4
      have d5 : l5 = true := haf ⟨5, .data⟩ (by simp) rfl
      obtain rfl := H5.out d5
      have d10 : l10 = true := haf ⟨10, .data⟩ (by simp) rfl
      obtain rfl := H10.out d10
      have hsl := HSL.out w'
      go_wp2_with fail
      exact ⟨_, _, _, _, _, _, _, _, _, _, _, true, _, _, _, _, _, _, _, _, _, _, _, _, _, _, _, _, _, _, _, _, _, rfl, rfl, H0, H1, H2, H3, (fun _ => rfl), (fun _ => rfl), H6, H7, H8, H9, (fun _ => rfl), (fun _ => rfl), H12, H13, H14, H15, H16, HB, HSZ⟩
    · obtain rfl : _ = o := Option.some.inj ho
      obtain ⟨hc, hf⟩ := bcell HB.out
      have d11 : l11 = true := haf ⟨11, .data⟩ (by simp) rfl
      obtain rfl := H11.out d11
      have hcv := HCV.out w' HB.out
      go_wp2_with fail
      exact ⟨_, _, _, _, _, _, _, _, _, _, _, _, true, _, _, _, _, _, _, _, _, _, _, _, _, _, _, _, _, _, _, _, _, rfl, rfl, H0, H1, H2, H3, H4, H5, H6, H7, H8, H9, H10, (fun _ => rfl), (fun _ => rfl), H13, H14, H15, H16, HB, HSZ⟩
    · obtain rfl : _ = o := Option.some.inj ho
      obtain ⟨hc, hf⟩ := bcell HB.out
      have d12 : l12 = true := haf ⟨12, .data⟩ (by simp) rfl
      obtain rfl := H12.out d12
      go_wp2_with fail
      refine (lower_any _ HLE.out _).mono ?_
      rintro e w2 ⟨rfl, hb1⟩
      have hk := fun k h => hb1.block k h
      go_wp2_with fail
      exact ⟨_, _, _, _, _, _, _, _, _, _, _, _, _, true, _, _, _, _, _, _, _, _, _, _, _, _, _, _, _, _, _, _, _, rfl, rfl, H0, H1, H2, H3, H4, H5, H6, H7, H8, H9, H10, H11, (fun _ => rfl), (fun _ => rfl), H14, (keep_at (c := fun _ => _) (c1 := fun _ => _) rfl H15.out hk), H16, (HB.out.trans (hb1.mono HSZ.out)), (Nat.le_trans HSZ.out hb1.size)⟩
    · obtain rfl : _ = o := Option.some.inj ho
      obtain ⟨hc, hf⟩ := bcell HB.out
      have d13 : l13 = true := haf ⟨13, .data⟩ (by simp) rfl
      obtain rfl := H13.out d13
      go_wp2_with fail
      exact ⟨_, _, _, _, _, _, _, _, _, _, _, _, _, _, true, _, _, _, _, _, _, _, _, _, _, _, _, _, _, _, _, _, _, rfl, rfl, H0, H1, H2, H3, H4, H5, H6, H7, H8, H9, H10, H11, H12, (fun _ => rfl), (fun _ => rfl), H15, H16, HB, HSZ⟩
    · obtain rfl : _ = o := Option.some.inj ho
      obtain ⟨hc, hf⟩ := bcell HB.out
      have hls : l16 = false := by cases l16 with | false => rfl | true => exact absurd (H16.out rfl) (by rw [show l15 = false from hl]; decide)
      subst hls
      go_wp2_with fail
      exact ⟨_, _, _, _, _, _, _, _, _, _, _, _, _, _, _, true, _, _, _, _, _, _, _, _, _, _, _, _, _, _, _, _, _, rfl, rfl, H0, H1, H2, H3, H4, H5, H6, H7, H8, H9, H10, H11, H12, H13, H14, (fun _ => ⟨_, rfl, HSZ.out, heap_alloc_new _ _⟩), (fun h => by cases h), (HB.out.alloc HSZ.out _), (by show _ ≤ _; have := HSZ.out; simp; omega)⟩
    · obtain rfl : _ = o := Option.some.inj ho
      obtain ⟨hc, hf⟩ := bcell HB.out
      have d15 : l15 = true := haf ⟨15, .data⟩ (by simp) rfl
      have d14 : l14 = true := haf ⟨14, .data⟩ (by simp) rfl
      obtain rfl := H14.out d14
      have hls : l16 = false := hl
      obtain ⟨p, rfl, hp, hheap⟩ := H15.out d15
      subst hls
      simp only [Bool.false_eq_true, if_false] at hheap
      refine wpList_store_row rfl 38 (.tmp 3) (.tmp 36) rfl p #[.string (lowerB (s.extract i E)), .string ⟨#[]⟩] rfl rfl _ #[.string ⟨#[]⟩, .string ⟨#[]⟩] hheap (by kernel_rfl) rfl (by simp [Value.oneCell']) ?_
      have hz : (w'.setRow p #[.string (lowerB (s.extract i E)), .string ⟨#[]⟩]).heap.size = w'.heap.size := by simp [World.setRow]
      have hat : (w'.setRow p #[.string (lowerB (s.extract i E)), .string ⟨#[]⟩]).heap[p]? = some (.cells #[.string (lowerB (s.extract i E)), .string ⟨#[]⟩] 38 (0, 0)) := by simp [World.setRow, Array.getElem?_modify, hheap]
      exact ⟨_, _, _, _, _, _, _, _, _, _, _, _, _, _, _, _, true, _, _, _, _, _, _, _, _, _, _, _, _, _, _, _, _, rfl, rfl, H0, H1, H2, H3, H4, H5, H6, H7, H8, H9, H10, H11, H12, H13, (fun _ => rfl), (fun _ => ⟨p, rfl, hp, hat⟩), (fun _ => d15), (below_setRow HB.out hp _), (by show _ ≤ _; rw [hz]; exact HSZ.out)⟩
    · exact absurd ho (by simp)
  case hend =>
    rintro L a w3 ⟨l0, l1, l2, l3, l4, l5, l6, l7, l8, l9, l10, l11, l12, l13, l14, l15, l16, x3, x22, x23, x24, x25, x26, x27, x28, x29, x30, x31, x32, x33, x34, x35, x36, rfl, rfl, H0, H1, H2, H3, H4, H5, H6, H7, H8, H9, H10, H11, H12, H13, H14, H15, H16, HB, HSZ⟩ hall
    have h15 : l15 = true := hall 15 (by simp)
    have h16 : l16 = true := hall 16 (by simp)
    subst h15 h16
    obtain ⟨p, rfl, hp, hhp⟩ := H15.out rfl
    simp only [if_true] at hhp
    have HPB := hid (show Blk w3 p 38 _ from hhp)
    have HB3 := hid (HB1.out.below HB.out hgl1)
    have HZ3 := hid (Bytes.keepAt HZ1.out fun k => World.cell?_of_block (HB.out.block b hbl1))
    have hz3 := HSZ.out
    have hbp : b ≠ p := by omega
    have hgp : g ≠ p := by omega
    clear hall H0 H1 H2 H3 H4 H5 H6 H7 H8 H9 H10 H11 H12 H13 H14 H15 H16 hhp HPASS HSL HCV c0 c1
    have hpass := fun (w4 : World) (h2 : b < w4.heap.size) (h3 : Lib.Bytes w4 b off s) (h4 : Blk w4 g 62 (rdr b off n cap E kd sz nm v sg cl)) =>
      pass_any 62 g b off n cap E _ s HN.out hEn hcap hc63 33 #[] blankB (fun _ => True) w4 (fun args w => by kernel_rfl)
        (fun W c _ => blank_any c W) (fun W' hW' => trivial) hb h2 h3 h4
    go_wp2_with fail
    refine (hpass _ (by omega) HZ3.out HB3.out).mono ?_
    clear hpass
    rintro e w4 ⟨rfl, hG4, hB4⟩
    have hown3 : w3.ownsRow B 38 2 v m xs := own_kept HOWN1.out (grown_of_below HB.out none) fun k hk e => by cases e
    have hown4 : w4.ownsRow B 38 2 v m xs := own_kept hown3 hG4 fun k hk e => HROW.out k hk (Option.some.inj e).symm
    have hltp : ∀ k, v.ownBlock = some k → k ≠ p := fun k hk e => by have := own_lt HOWN1.out hk; omega
    have HLTP := hid hltp
    have HOWN4 := hid hown4
    have HP4 := hid (HPB.out.grown hG4 (fun e => hgp (Option.some.inj e).symm))
    have HZ4 := hid (Bytes.keepAt HZ3.out fun k => World.cell?_of_block (hG4.block b (by omega) (fun e => hb (Option.some.inj e))))
    have HB4B := hid ((HB1B.out.trans (HB.out.mono (by omega : B ≤ w1.heap.size))).trans (below_of_grown hG4 hgB (by omega)))
    have hz4 : w3.heap.size ≤ w4.heap.size := hG4.size
    have hk1 := passTo_le blankB s (i := E) hE2
    generalize hkd : passTo blankB s E = k at hB4 hk1
    rw [hkd] at HA
    generalize s.extract E k = txt2
    have c0 := hB4.cell 0
    have c1 := hB4.cell 1
    simp only [List.getElem?_toArray, List.getElem?_cons_zero, List.getElem?_cons_succ] at c0 c1
    have hpk := peek_any g b off cap k s n HN.out w4 HZ4.out ⟨c0, c1⟩
    have HB4 := hid hB4
    clear hown3 hown4 hltp hG4 hB4 c0 c1
    go_wp2_with fail
    refine hpk.mono ?_
    clear hpk
    rintro e w5 ⟨rfl, nd, rfl⟩
    go_upto_if 45 with fail
    go_cut [] (fun wx => Hid (Blk wx g 62 (rdr b off n cap (valueAt s k).2 kd sz nm v sg cl)) ∧ Hid (Blk wx p 38 #[.string (lowerB (s.extract i E)), .string (valueAt s k).1]) ∧ Hid (Below B w wx) ∧ Hid (wx.ownsRow B 38 2 v m xs) ∧ Hid (p < wx.heap.size))
    case first =>
      have hE1 := HB4.out.drewN nd
      have hP1 := HP4.out.drewN nd
      by_cases h61 : pk s k = 61
      · have hks : k < s.size := by
          by_cases hks : k < s.size
          · exact hks
          · unfold pk at h61; rw [if_neg hks] at h61; cases h61
        have hva : valueAt s k = valueV s k := by unfold valueAt; unfold pk at h61; rw [if_pos hks] at h61; rw [if_pos ⟨hks, h61⟩]
        rw [show (pk s k == 61) = true by rw [h61]; rfl]
        have hval := value_any 62 g b off n cap k _ s HN.out (by have := HN.out; omega) hcap hc63 (w4.drewN nd) hb (by simp; omega) (HZ4.out.drewN nd) hE1
        have HVAL := hid hval
        have HVA := hid hva
        clear hval hE1 hP1 h61 hva
        go_wp2_with fail
        refine HVAL.out.mono ?_
        rintro e w6 ⟨rfl, hG6, hB6⟩
        have hP6 := (HP4.out.drewN nd).grown hG6 (fun e => hgp (Option.some.inj e).symm)
        have cp1 := hP6.cell 1
        have fp := hP6.frozen
        simp only [List.getElem?_toArray, List.getElem?_cons_zero, List.getElem?_cons_succ] at cp1
        have HG6 := hid hG6
        have HB6 := hid hB6
        have HP6 := hid hP6
        clear hG6 hB6 hP6
        go_wp2_with fail
        go_meet
        rw [HVA.out]
        refine ⟨HB6.out.far hgp _, (by show Blk _ _ _ _; simpa using HP6.out.set_ 1 _), ?_, ?_, ?_⟩
        · exact (HB4B.out.trans (below_of_grown ((grown_drewN w4 nd (some g)).trans HG6.out) hgB (by omega))).setCell (p := ⟨p, 1, none⟩) (by show B ≤ p; omega) _
        · refine own_kept (own_kept (HOWN4.out) ((grown_drewN w4 nd (some g)).trans HG6.out) fun k hk e => HROW.out k hk (Option.some.inj e).symm) (grown_set w6 p 1 _) fun k hk e => HLTP.out k hk (Option.some.inj e).symm
        · show _ < _
          rw [size_set]
          exact HP6.out.lt
      · have hva : valueAt s k = (⟨#[]⟩, k) := by
          unfold valueAt
          rw [if_neg]
          rintro ⟨h1, h2⟩
          unfold pk at h61
          rw [if_pos h1] at h61
          exact h61 h2
        rw [show (pk s k == 61) = false by simpa using h61]
        have HVA := hid hva
        clear h61 hva
        go_wp2_with fail
        go_meet
        rw [HVA.out]
        exact ⟨hE1, hP1, HB4B.out.trans (below_drewN _ _ nd), own_drewN HOWN4.out nd, hP1.lt⟩
    case rest =>
      obtain ⟨HBg, HBp, HBB, HOW, HPL⟩ := hcut
      have hpl := HPL.out
      have hBl : B ≤ wc.heap.size := by omega
      generalize hka : (valueAt s k).2 = k2 at *
      generalize hta : (valueAt s k).1 = tv at *
      generalize htn : lowerB (s.extract i E) = tn at *
      obtain ⟨i0, hi0, hz0, hz1, hz2⟩ := info_parts info_attr
      go_upto_region 7 with fail
      refine wp_region_inv (attrInv7 B g b off n cap i k2 p kd sz nm v sg cl m xs tn tv u4 u5 u6 u7 u8 u9 u10 u11 u12 u13 u14 u15 u16 u17 u18 u19 u20 u21 u22 u23 u24 u25 u26 u27 u28 u29 u30 u31 u32 u33 u34 u35 u36 u37 u38 u39 u40 u41 u42 u43 u44 u45 u46 u47 u48 w) rfl (by kernel_rfl) ?h0 ?hstep ?hend
      case h0 =>
        exact ⟨false, false, false, false, false, false, false, false, false, false, false, false, false, _, _, _, _, _, _, _, _, _, _, _, _, rfl, rfl, (fun h => by cases h), (fun h => by cases h), (fun h => by cases h), (fun h => by cases h), (fun h => by cases h), (fun h => by cases h), (fun h => by cases h), (fun h => by cases h), (fun h => by cases h), (fun h => by cases h), (fun h => by cases h), (fun h => by cases h), (fun h => by cases h), (HBB.out.trans (below_drewN _ _ 1)), (fun _ => own_drewN HOW.out 1), (fun _ => HBg.out.drewN 1), (HBp.out.drewN 1), (by show _ ≤ _; simp; omega), (fun h => by cases h), (fun h => by cases h)⟩
      case hstep =>
        rintro L a w' ix o ⟨l0, l1, l2, l3, l4, l5, l6, l7, l8, l9, l10, l11, l12, x49, x50, x51, x52, x53, x54, x55, x56, x57, x58, x59, x60, rfl, rfl, H0, H1, H2, H3, H4, H5, H6, H7, H8, H9, H10, H11, H12, HB, HO, HG, HP, HL, HD8, HD12⟩ ho hl haf
        rcases ix with _ | _ | _ | _ | _ | _ | _ | _ | _ | _ | _ | _ | _ | ix
        · obtain rfl : _ = o := Option.some.inj ho
          have hl : l0 = false := hl
          subst hl
          go_wp2_with fail
          exact ⟨true, _, _, _, _, _, _, _, _, _, _, _, _, _, _, _, _, _, _, _, _, _, _, _, _, rfl, rfl, (fun _ => rfl), H1, H2, H3, H4, H5, H6, H7, H8, H9, H10, H11, H12, HB, HO, HG, HP, HL, HD8, HD12⟩
        · obtain rfl : _ = o := Option.some.inj ho
          have hl : l1 = false := hl
          subst hl
          go_wp2_with fail
          exact ⟨_, true, _, _, _, _, _, _, _, _, _, _, _, _, _, _, _, _, _, _, _, _, _, _, _, rfl, rfl, H0, (fun _ => rfl), H2, H3, H4, H5, H6, H7, H8, H9, H10, H11, H12, HB, HO, HG, HP, HL, HD8, HD12⟩
        · obtain rfl : _ = o := Option.some.inj ho
          have hl : l2 = false := hl
          subst hl
          have d1 : l1 = true := haf ⟨1, .data⟩ (by simp) rfl
          obtain rfl := H1.out d1
          subst d1
          go_wp2_with fail
          exact ⟨_, _, true, _, _, _, _, _, _, _, _, _, _, _, _, _, _, _, _, _, _, _, _, _, _, rfl, rfl, H0, (fun _ => rfl), (fun _ => rfl), H3, H4, H5, H6, H7, H8, H9, H10, H11, H12, HB, HO, HG, HP, HL, HD8, HD12⟩
        · obtain rfl : _ = o := Option.some.inj ho
          have hl : l3 = false := hl
          subst hl
          have d2 : l2 = true := haf ⟨2, .data⟩ (by simp) rfl
          obtain rfl := H2.out d2
          subst d2
          go_wp2_with fail
          exact ⟨_, _, _, true, _, _, _, _, _, _, _, _, _, _, _, _, _, _, _, _, _, _, _, _, _, rfl, rfl, H0, H1, (fun _ => rfl), (fun _ => rfl), H4, H5, H6, H7, H8, H9, H10, H11, H12, HB, HO, HG, HP, HL, HD8, HD12⟩
        · obtain rfl : _ = o := Option.some.inj ho
          have hl : l4 = false := hl
          subst hl
          have d3 : l3 = true := haf ⟨3, .data⟩ (by simp) rfl
          obtain rfl := H3.out d3
          subst d3
          go_wp2_with fail
          exact ⟨_, _, _, _, true, _, _, _, _, _, _, _, _, _, _, _, _, _, _, _, _, _, _, _, _, rfl, rfl, H0, H1, H2, (fun _ => rfl), (fun _ => rfl), H5, H6, H7, H8, H9, H10, H11, H12, HB, HO, HG, HP, HL, HD8, HD12⟩
        · obtain rfl : _ = o := Option.some.inj ho
          have hl : l5 = false := hl
          subst hl
          have d4 : l4 = true := haf ⟨4, .data⟩ (by simp) rfl
          obtain rfl := H4.out d4
          subst d4
          obtain rfl : l12 = false := by cases l12 with | false => rfl | true => exact absurd (HD8.out (HD12.out rfl)).1 (by decide)
          have cg := (HG.out rfl).cell 5
          simp only [rdr, List.getElem?_toArray, List.getElem?_cons_zero, List.getElem?_cons_succ] at cg
          have hgg := HG.out rfl
          go_wp2_with fail
          exact ⟨_, _, _, _, _, true, _, _, _, _, _, _, _, _, _, _, _, _, _, _, _, _, _, _, _, rfl, rfl, H0, H1, H2, H3, (fun _ => rfl), (fun _ => rfl), H6, H7, H8, H9, H10, H11, (fun h => by cases h), HB, HO, (fun _ => hgg), HP, HL, (fun h => ⟨rfl, (HD8.out h).2⟩), (fun h => by cases h)⟩
        · obtain rfl : _ = o := Option.some.inj ho
          have hl : l6 = false := hl
          subst hl
          have cp0 := HP.out.cell 0
          have cp1 := HP.out.cell 1
          simp only [List.getElem?_toArray, List.getElem?_cons_zero, List.getElem?_cons_succ] at cp0 cp1
          go_wp2_with fail
          exact ⟨_, _, _, _, _, _, true, _, _, _, _, _, _, _, _, _, _, _, _, _, _, _, _, _, _, rfl, rfl, H0, H1, H2, H3, H4, H5, (fun _ => rfl), H7, H8, H9, H10, H11, H12, HB, HO, HG, HP, HL, HD8, HD12⟩
        · obtain rfl : _ = o := Option.some.inj ho
          have hl : l7 = false := hl
          subst hl
          have d6 : l6 = true := haf ⟨6, .data⟩ (by simp) rfl
          obtain rfl := H6.out d6
          subst d6
          obtain rfl : l8 = false := by cases l8 with | false => rfl | true => exact absurd (HD8.out rfl).2 (by decide)
          have ho8 := HO.out rfl
          go_wp2_with fail
          exact ⟨_, _, _, _, _, _, _, true, _, _, _, _, _, _, _, _, _, _, _, _, _, _, _, _, _, rfl, rfl, H0, H1, H2, H3, H4, H5, (fun _ => rfl), (fun _ => ⟨_, rfl, Blk.new _ _ _, fun _ e => by have := own_lt ho8 e; omega⟩), (fun h => by cases h), H9, H10, H11, (fun h => (H12.out h).alloc _), (HB.out.alloc HL.out _), (fun _ => ho8.alloc _), (fun h => (HG.out h).alloc _), (HP.out.alloc _), (by show _ ≤ _; have := HL.out; simp; omega), (fun h => by cases h), HD12⟩
        · obtain rfl : _ = o := Option.some.inj ho
          have hl : l8 = false := hl
          subst hl
          have d5 : l5 = true := haf ⟨5, .data⟩ (by simp) rfl
          obtain rfl := H5.out d5
          subst d5
          have d7 : l7 = true := haf ⟨7, .data⟩ (by simp) rfl
          subst d7
          obtain rfl : l12 = false := by cases l12 with | false => rfl | true => exact absurd (HD12.out rfl) (by decide)
          obtain ⟨q, rfl, hq, hqn⟩ := H7.out rfl
          have ho8 := HO.out rfl
          have hgg := HG.out rfl
          have hqn := hqn rfl
          refine wpList_append_any w' rfl (.tmp 54) (.tmp 56) 24 rfl B 38 i0 (.agg #[.string ⟨#[]⟩, .string ⟨#[]⟩]) 2 32 Try.underlying24 hi0 hz0 hz1 hz2 rfl (by decide) x54 m xs rfl ho8 w'.heap.size (some ⟨q, 0, none⟩) 1 1 [.string tn, .string tv] rfl (reads_blk2 hq) (by simp [Value.oneCell']) (by unfold maxLen; omega) (by omega) HL.out ?_
          intro v' w2 ho2 hg2 hl2
          exact ⟨_, _, _, _, _, _, _, _, true, _, _, _, _, _, _, _, _, _, _, _, _, _, _, _, _, rfl, rfl, H0, H1, H2, H3, H4, (fun _ => rfl), H6, (fun _ => ⟨q, rfl, hq.grown hg2 (Ne.symm hqn), fun h => by cases h⟩), (fun _ => ho2), H9, H10, H11, (fun h => by cases h), (HB.out.grown hg2 HL.out (own_ge ho8)), (fun h => by cases h), (fun _ => hgg.grown hg2 (fun e => HROW.out g e.symm rfl)), (HP.out.grown hg2 (fun e => HLTP.out p e.symm rfl)), (Nat.le_trans HL.out hg2.size), (fun _ => ⟨rfl, rfl⟩), (fun h => by cases h)⟩
        · obtain rfl : _ = o := Option.some.inj ho
          have hl : l9 = false := hl
          subst hl
          have d0 : l0 = true := haf ⟨0, .data⟩ (by simp) rfl
          obtain rfl := H0.out d0
          subst d0
          go_wp2_with fail
          exact ⟨_, _, _, _, _, _, _, _, _, true, _, _, _, _, _, _, _, _, _, _, _, _, _, _, _, rfl, rfl, (fun _ => rfl), H1, H2, H3, H4, H5, H6, H7, H8, (fun _ => rfl), H10, H11, H12, HB, HO, HG, HP, HL, HD8, HD12⟩
        · obtain rfl : _ = o := Option.some.inj ho
          have hl : l10 = false := hl
          subst hl
          have d9 : l9 = true := haf ⟨9, .data⟩ (by simp) rfl
          obtain rfl := H9.out d9
          subst d9
          go_wp2_with fail
          exact ⟨_, _, _, _, _, _, _, _, _, _, true, _, _, _, _, _, _, _, _, _, _, _, _, _, _, rfl, rfl, H0, H1, H2, H3, H4, H5, H6, H7, H8, (fun _ => rfl), (fun _ => rfl), H11, H12, HB, HO, HG, HP, HL, HD8, HD12⟩
        · obtain rfl : _ = o := Option.some.inj ho
          have hl : l11 = false := hl
          subst hl
          have d10 : l10 = true := haf ⟨10, .data⟩ (by simp) rfl
          obtain rfl := H10.out d10
          subst d10
          go_wp2_with fail
          exact ⟨_, _, _, _, _, _, _, _, _, _, _, true, _, _, _, _, _, _, _, _, _, _, _, _, _, rfl, rfl, H0, H1, H2, H3, H4, H5, H6, H7, H8, H9, (fun _ => rfl), (fun _ => rfl), H12, HB, HO, HG, HP, HL, HD8, HD12⟩
        · obtain rfl : _ = o := Option.some.inj ho
          have hl : l12 = false := hl
          subst hl
          have d11 : l11 = true := haf ⟨11, .data⟩ (by simp) rfl
          obtain rfl := H11.out d11
          subst d11
          have d8 : l8 = true := haf ⟨8, .data⟩ (by simp) rfl
          subst d8
          have ho8 := H8.out rfl
          obtain ⟨a57, c57, rfl, _⟩ := owns_form ho8
          have hgg := HG.out rfl
          have hrg := own_blk_ne ho8 hgg (by decide)
          have cg := hgg.cell 5
          have frg := hgg.frozen
          simp only [rdr, List.getElem?_toArray, List.getElem?_cons_zero, List.getElem?_cons_succ] at cg
          obtain ⟨rfl, rfl⟩ := HD8.out rfl
          have HG9 := hid hgg
          have HO8 := hid ho8
          clear ho8 hgg
          go_wp2_with fail
          exact ⟨_, _, _, _, _, _, _, _, _, _, _, _, true, _, _, _, _, _, _, _, _, _, _, _, _, rfl, rfl, H0, H1, H2, H3, H4, (fun _ => H5.out trivial), H6, (fun h => by obtain ⟨q, e, hq, hn⟩ := H7.out trivial; exact ⟨q, e, hq.far (hq.ne_ HG9.out (by decide)) _, fun h => by cases h⟩), (fun _ => own_kept HO8.out (grown_set _ g 5 _) fun k hk e => hrg (hk.trans e.symm)), H9, H10, (fun _ => rfl), (fun _ => by simpa [rdr] using HG9.out.set_ 5 _), (HB.out.setCell (p := ⟨g, 5, none⟩) hgB _), (fun h => by cases h), (fun h => by cases h), (HP.out.far (Ne.symm hgp) _), (by show _ ≤ _; rw [size_set]; exact HL.out), (fun _ => ⟨rfl, rfl⟩), (fun _ => rfl)⟩
        · exact absurd ho (by simp)
      case hend =>
        rintro L a wz ⟨l0, l1, l2, l3, l4, l5, l6, l7, l8, l9, l10, l11, l12, x49, x50, x51, x52, x53, x54, x55, x56, x57, x58, x59, x60, rfl, rfl, H0, H1, H2, H3, H4, H5, H6, H7, H8, H9, H10, H11, H12, HB, HO, HG, HP, HL, HD8, HD12⟩ hall
        have h8 : l8 = true := hall 8 (by simp)
        have h12 : l12 = true := hall 12 (by simp)
        subst h8 h12
        have ho := H8.out rfl
        have hg := H12.out rfl
        have hb2 := HB.out
        clear hall H0 H1 H2 H3 H4 H5 H6 H7 H8 H9 H10 H11 H12 HB HO HG HP HL HD8 HD12
        go_wp2_with fail
        go_end0
        rw [HA.out]
        exact ⟨rfl, hb2, _, hg, ho⟩
end Go.Proofs.Ytpkbmgpbagdalaa
