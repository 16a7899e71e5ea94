/- Bytes that came in, told by a ByteArray. -/
import Derived.Test.YtpkbmgpbagdalaaOpen
import Derived.Test.YtpkbmgpbagdalaaTagU
namespace Go.Proofs.Ytpkbmgpbagdalaa
open Go.RowKit
set_option linter.unusedVariables false

def BA (w : World) (a : Option Addr) (n cap : Nat) (s : ByteArray) : Prop :=
  n = s.size ∧ n ≤ cap ∧ cap ≤ 9223372036854775807 ∧ (0 < n → ∃ b off, a = some ⟨b, off, none⟩ ∧ b < w.heap.size ∧ Lib.Bytes w b off s)
theorem BA.below {w w' : World} {a : Option Addr} {n cap B : Nat} {s : ByteArray} (h : BA w a n cap s) (hb : Below B w w') (hB : w.heap.size ≤ B) : BA w' a n cap s :=
  ⟨h.1, h.2.1, h.2.2.1, fun hn => by
    obtain ⟨b, off, e, hbl, hz⟩ := h.2.2.2 hn
    exact ⟨b, off, e, Nat.lt_of_lt_of_le hbl hb.size, Bytes.keepAt hz fun k => World.cell?_of_block (hb.block b (by omega))⟩⟩

/-- The bytes of numbers. -/
def ofInts (zs : List Int) : ByteArray := ⟨(zs.map fun n => UInt8.ofNat n.toNat).toArray⟩
theorem ofInts_size (zs : List Int) : (ofInts zs).size = zs.length := by
  show (zs.map fun n => UInt8.ofNat n.toNat).toArray.size = _
  simp
theorem ofInts_byt (zs : List Int) (hz : ∀ y ∈ zs, 0 ≤ y ∧ y ≤ 255) (i : Nat) (hi : i < zs.length) : byt (ofInts zs) i = zs.getD i 0 := by
  have hy := hz zs[i] (List.getElem_mem hi)
  unfold byt ofInts
  simp [Array.getD_eq_getD_getElem?, List.getD_eq_getElem?_getD, hi]
  omega

theorem ba_of {w : World} {a : Option Addr} {len cap : Nat} {zs : List Int} (h : IsRow .u8 w a len cap zs) : ∃ s : ByteArray, BA w a len cap s := by
  rcases h with ⟨rfl, rfl, rfl, rfl⟩ | ⟨x, rfl, hl, hm, hz, hcell, hwz⟩
  · exact ⟨ofInts [], rfl, Nat.le_refl _, by decide, fun h => absurd h (by decide)⟩
  · have hlen : (zs.take len).length = len := by rw [List.length_take]; omega
    refine ⟨ofInts (zs.take len), by rw [ofInts_size, hlen], hl, by unfold maxLen at hm; omega, fun h0 => ?_⟩
    obtain ⟨b, off, spot⟩ := x
    have hc := hcell 0 (by omega)
    have hspot : spot = none := by simpa [Addr.add] using World.cell?_spot hc
    subst hspot
    refine ⟨b, off, rfl, World.block_lt_of_cell? _ _ hc, ?_⟩
    apply bytes_of_byt
    intro i hi
    rw [ofInts_size, hlen] at hi
    have h1 := hcell i (by omega)
    rw [show (Addr.add ⟨b, off, none⟩ i) = ⟨b, off + i, none⟩ by unfold Addr.add; split <;> simp_all] at h1
    rw [h1, ofInts_byt _ (fun y hy => by
      have := hwz y (List.mem_of_mem_take hy)
      simp only [Lit.wf, IntKind.min, IntKind.max, IntKind.signed, IntKind.bits, Bool.and_eq_true] at this
      simp at this
      omega) i (by omega)]
    simp [hi]

def u8s (s : ByteArray) : List Value := (intsOf s).map (Value.int .u8)
theorem u8s_len (s : ByteArray) : (u8s s).length = s.size := by simp [u8s, intsOf_len]
theorem u8s_get (s : ByteArray) (i : Nat) (h : i < s.size) : (u8s s)[i]? = some (.int .u8 (byt s i)) := by
  unfold u8s
  rw [List.getElem?_map, List.getElem?_eq_getElem (by rw [intsOf_len]; exact h), ← intsOf_get, List.getD_eq_getElem?_getD, List.getElem?_eq_getElem (by rw [intsOf_len]; exact h)]
  rfl
theorem u8s_append (s r : ByteArray) : u8s (s ++ r) = u8s s ++ u8s r := by
  unfold u8s intsOf
  rw [← List.map_append, ← List.map_append]
  congr 2
theorem u8s_one (s : ByteArray) : ∀ u ∈ u8s s, u.oneCell' = true := by
  intro u hu
  obtain ⟨a, _, rfl⟩ := List.mem_map.1 hu
  rfl
theorem BA.reads {w : World} {a : Option Addr} {n cap : Nat} {s : ByteArray} (h : BA w a n cap s) : Reads w w.heap.size 1 a n (u8s s) := by
  refine ⟨by rw [u8s_len, h.1, Nat.mul_one], fun hn => ?_⟩
  obtain ⟨b, off, rfl, hb, hz⟩ := h.2.2.2 hn
  refine ⟨_, rfl, hb, fun j u hu => ?_⟩
  have hj : j < s.size := by
    have := (List.getElem?_eq_some_iff.1 hu).1
    rwa [u8s_len] at this
  rw [u8s_get s j hj] at hu
  cases hu
  rw [show (Addr.add ⟨b, off, none⟩ j) = ⟨b, off + j, none⟩ by unfold Addr.add; split <;> simp_all]
  exact bytes_cell hz hj
theorem BA.of_own {W : World} {B n c : Nat} {e : TypeId} {A : Option Addr} {s : ByteArray} (h : W.ownsRow B e 1 (.slice A n c) n (u8s s)) : BA W A n c s := by
  have hl := h.1
  rw [u8s_len, Nat.mul_one] at hl
  obtain ⟨a, c', hv, h1, h2, hc⟩ := owns_form h
  injection hv with hA _ hcc
  subst hA hcc
  refine ⟨hl.symm, h1, by unfold maxLen at h2; omega, fun hn => ?_⟩
  obtain ⟨g, rfl, _, hg, hcell⟩ := hc hn
  refine ⟨g, 0, rfl, hg, ?_⟩
  apply bytes_of_byt
  intro i hi
  rw [Nat.zero_add, hcell i (by omega), u8s_get s i hi]
theorem owns_empty (w : World) (e : TypeId) (k : Nat) : (w.alloc (.cells #[] e)).ownsRow w.heap.size e k (.slice (some ⟨w.heap.size, 0, none⟩) 0 0) 0 [] :=
  ⟨by simp, .inr ⟨w.heap.size, 0, #[], rfl, Nat.le_refl _, heap_alloc_new w _, Nat.le_refl _, Nat.zero_le _, by simp, by simp⟩⟩
theorem owns_slice {W : World} {B : Nat} {e : TypeId} {k n : Nat} {v : Value} {xs : List Value} (h : W.ownsRow B e k v n xs) : ∃ A c, v = .slice A n c := by
  obtain ⟨a, c, hv, _⟩ := owns_form h
  exact ⟨a, c, hv⟩
theorem info_u8 : (Try.prog.info? 5).map (fun i => (i.zero, i.size, i.bytes)) = some (some (.int .u8 0), 1, 1) := by kernel_rfl
end Go.Proofs.Ytpkbmgpbagdalaa
