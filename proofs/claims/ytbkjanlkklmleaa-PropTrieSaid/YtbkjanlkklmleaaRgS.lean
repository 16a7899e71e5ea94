/- Chapter 02: ranges sorted: between the words of slices.SortFunc's contract and mine. -/
import Derived.Test.YtbkjanlkklmleaaRgI
import Derived.Test.YtbkjanlkklmleaaRgM
import Derived.Test.YtbkjanlkklmleaaRgSh
import Derived.Lib.OwnBridge
namespace Go.Proofs.Ytbkjanlkklmleaa
open Go.RowKit Go.Shelf
open Go.Lib (hid)
open Go.Sort (HoldsK putRowK flatK SWO PermIn SortedIn)
set_option linter.unusedVariables false

abbrev OkRg := {x : Rg // okR x}
instance : Inhabited OkRg := ⟨⟨(0, 0), by unfold okR; decide⟩⟩
def encRg (x : OkRg) : List Value := rgCells x.val
def cfRg (x y : OkRg) : Int := x.val.1 - y.val.1
theorem ltRg (x y : OkRg) : ltOf cfRg x y = decide (x.val.1 < y.val.1) := by
  unfold ltOf cfRg
  by_cases h : x.val.1 < y.val.1
  · rw [decide_eq_true h, decide_eq_true (by omega)]
  · rw [decide_eq_false h, decide_eq_false (by omega)]
theorem swoRg : SWO (ltOf cfRg) where
  irrefl x := by rw [ltRg]; simp
  trans x y z h1 h2 := by rw [ltRg] at *; simp at *; omega
  ntrans x y z h1 h2 := by rw [ltRg] at *; simp at *; omega
def okArr (l : List Rg) (h : ∀ x ∈ l, okR x) : Array OkRg := (l.attachWith okR h).toArray
theorem okArr_size (l : List Rg) (h : ∀ x ∈ l, okR x) : (okArr l h).size = l.length := by simp [okArr]
theorem okArr_get (l : List Rg) (h : ∀ x ∈ l, okR x) (i : Nat) (hi : i < l.length) : ((okArr l h)[i]!).val = l[i] := by
  rw [getElem!_pos _ i (by rw [okArr_size]; exact hi)]
  simp [okArr]
theorem okArr_map (l : List Rg) (h : ∀ x ∈ l, okR x) : (okArr l h).toList.map Subtype.val = l := by unfold okArr; exact List.attachWith_map_subtype_val ..
theorem enc_len (x : OkRg) : (encRg x).length = 2 := rfl
theorem enc_one (x : OkRg) : ∀ v ∈ encRg x, v.oneCell' = true := fun v hv => by
  simp [encRg, rgCells] at hv
  rcases hv with rfl | rfl <;> rfl
/-- An own row of ranges that may be, in the sort's words. -/
theorem holdsK_own {W : World} {B n c g : Nat} {e : TypeId} {l : List Rg} (ho : W.ownsRow B e 2 (.slice (some ⟨g, 0, none⟩) n c) n (l.flatMap rgCells)) (h : ∀ x ∈ l, okR x) : HoldsK encRg 2 W g 0 (okArr l h) := by
  intro j hj
  rw [Go.Sort.size_flatK, okArr_size] at hj
  have hn : n = l.length := by have := ho.1; rw [rgCells_len] at this; omega
  obtain ⟨A', c', hv, _, _, hcc⟩ := owns_form ho
  injection hv with hA _ hc
  obtain ⟨g', hg', hB, hg, hcell⟩ := hcc (by omega)
  have : g' = g := by rw [hg'] at hA; injection hA with hA; injection hA with hA; exact hA.symm
  subst this
  refine ⟨?_, ?_⟩
  · have hk : j / 2 < l.length := by omega
    rw [Nat.zero_add, hcell j (by omega), Go.Sort.get_flatK _ _ _ _ (by rw [okArr_size]; exact hj)]
    obtain ⟨g0, g1⟩ := rgCells_get l (j / 2) hk
    unfold encRg
    rw [okArr_get l h _ hk]
    rcases Nat.mod_two_eq_zero_or_one j with h0 | h0
    · have e1 : j = j / 2 * 2 := by omega
      rw [h0, show (l.flatMap rgCells)[j]? = (l.flatMap rgCells)[j / 2 * 2]? by rw [← e1], g0]
      rfl
    · have e1 : j = j / 2 * 2 + 1 := by omega
      rw [h0, show (l.flatMap rgCells)[j]? = (l.flatMap rgCells)[j / 2 * 2 + 1]? by rw [← e1], g1]
      rfl
  · rw [Nat.zero_add]; exact ho.frozenAt _
theorem sortW_size (W : World) (g m : Nat) (d' : Array OkRg) (os : Array Obj) : W.heap.size ≤ (sortWorldK encRg 2 W g 0 m d' os).heap.size := by
  simp [sortWorldK, Go.Sort.grow, putRowK, Go.Sort.putRow, Go.Sort.mapBlock, Go.Sort.ahead]
theorem below_grow0 {B : Nat} {w : World} {os : Array Obj} (hB : B ≤ w.heap.size) : Below B w (Go.Sort.grow w os) :=
  ⟨rfl, rfl, rfl, by simp [Go.Sort.grow], fun k hk => by unfold Go.Sort.grow; exact Array.getElem?_append_left (by omega)⟩
theorem sortW_below {B : Nat} {w0 W : World} {g m : Nat} {d' : Array OkRg} {os : Array Obj} (h : Below B w0 W) (hg : B ≤ g) (hB : B ≤ W.heap.size) : Below B w0 (sortWorldK encRg 2 W g 0 m d' os) :=
  (Go.Lib.below_putRow (enc := id) h hg).trans (below_grow0 (by simpa [Go.Sort.putRow, Go.Sort.mapBlock, Go.Sort.ahead] using hB))
/-- .. and back. -/
theorem rr_sorted {W : World} {g n cap m : Nat} {d d' : Array OkRg} {os : Array Obj} (hH : HoldsK encRg 2 W g 0 d) (hg : g < W.heap.size) (hn : d.size = n) (hs : d'.size = d.size) (hc : n ≤ cap) (hm : cap ≤ maxLen) :
    RR (sortWorldK encRg 2 W g 0 m d' os) (some ⟨g, 0, none⟩) n cap (d'.toList.map Subtype.val) := by
  have hK : HoldsK encRg 2 (sortWorldK encRg 2 W g 0 m d' os) g 0 d' := Go.Sort.holdsK_grow _ _ _ _ _ _ _ (by simpa [putRowK, Go.Sort.putRow, Go.Sort.mapBlock, Go.Sort.ahead] using hg) (Go.Sort.holdsK_putRowK _ _ _ _ _ _ _ hH hs)
  refine ⟨by simp [hs, hn], hc, by unfold maxLen at hm; omega, fun _ => ⟨g, 0, rfl, Nat.lt_of_lt_of_le hg (sortW_size ..), fun j hj => ?_⟩⟩
  have hj' : j < d'.size := by simpa using hj
  have h0 := (hK.cell (c := 0) hj' (by decide)).1
  have h1 := (hK.cell (c := 1) hj' (by decide)).1
  rw [getElem!_pos _ j hj'] at h0 h1
  have e : (d'.toList.map Subtype.val)[j] = d'[j].val := by simp
  rw [e]
  exact ⟨h0, h1⟩
/-- What is permuted and sorted, as lists. -/
theorem sorted_list {d d' : Array OkRg} (hp : PermIn 0 d.size d d') (hs : SortedIn (ltOf cfRg) 0 d.size d') : (d'.toList.map Subtype.val).Perm (d.toList.map Subtype.val) ∧ (d'.toList.map Subtype.val).Pairwise (fun x y => x.1 ≤ y.1) := by
  obtain ⟨h1, _, h3⟩ := hp
  rw [show d'.extract 0 d.size = d' by rw [← h1]; simp, show d.extract 0 d.size = d by simp] at h3
  refine ⟨h3.map _, ?_⟩
  rw [List.pairwise_iff_getElem]
  intro i j hi hj hij
  have hi' : i < d'.size := by simpa using hi
  have hj' : j < d'.size := by simpa using hj
  have := hs i j (Nat.zero_le _) hij (by omega)
  rw [getElem!_pos _ j hj', getElem!_pos _ i hi', ltRg] at this
  have := of_decide_eq_false this
  simp only [List.getElem_map, Array.getElem_toList]
  omega
end Go.Proofs.Ytbkjanlkklmleaa
