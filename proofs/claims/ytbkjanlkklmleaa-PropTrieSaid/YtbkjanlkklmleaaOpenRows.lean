/- How slices of structs, of bools, of texts are opened. Of no program. -/
import Derived.Test.YtbkjanlkklmleaaOpen
import Derived.Deep.Grids
import Derived.SliceStrings
import Derived.ChangeArms
namespace Go.Proofs.Ytbkjanlkklmleaa
open Go.Joins Go.ChangeShapes Go.WideShapes Go.RowKit Go.Deep
set_option linter.unusedVariables false

/-- A field's kind. -/
inductive FK where
  | bool
  | string
  | int (k : IntKind)
def FK.ok : FK → Value → Prop
  | .bool, v => ∃ b, v = .bool b
  | .string, v => ∃ s : ByteArray, v = .string s ∧ s.size ≤ maxLen
  | .int k, v => ∃ z, v = .int k z ∧ (Lit.int k z).wf = true
def FK.isB : Option TypeDesc → FK → Bool
  | some .bool, .bool => true
  | some .string, .string => true
  | some (.int k'), .int k => decide (k' = k)
  | _, _ => false

/-- Each element is its fields' cells, one behind another. -/
def IsAggRow (ks : List FK) (w : World) (a : Option Addr) (len cap : Nat) (D : List (List Value)) : Prop :=
  D.length = len ∧ (∀ r ∈ D, r.length = ks.length ∧ ∀ (j : Nat) (k : FK), ks[j]? = some k → ∃ c : Value, r[j]? = some c ∧ k.ok c) ∧ len ≤ cap ∧ cap ≤ maxLen ∧
  (len = 0 ∨ ∃ b off, a = some ⟨b, off, none⟩ ∧ b < w.heap.size ∧ ∀ i r j c, D[i]? = some r → r[j]? = some c → w.cell? ⟨b, off + (i * ks.length + j), none⟩ = some c)
def IsBoolRow (w : World) (a : Option Addr) (len cap : Nat) (D : List Bool) : Prop :=
  D.length = len ∧ len ≤ cap ∧ cap ≤ maxLen ∧ (len = 0 ∨ ∃ b off, a = some ⟨b, off, none⟩ ∧ b < w.heap.size ∧ ∀ i c, D[i]? = some c → w.cell? ⟨b, off + i, none⟩ = some (.bool c))
def IsStrRow (w : World) (a : Option Addr) (len cap : Nat) (D : List ByteArray) : Prop :=
  D.length = len ∧ (∀ s ∈ D, s.size ≤ maxLen) ∧ len ≤ cap ∧ cap ≤ maxLen ∧ (len = 0 ∨ ∃ b off, a = some ⟨b, off, none⟩ ∧ b < w.heap.size ∧ ∀ i c, D[i]? = some c → w.cell? ⟨b, off + i, none⟩ = some (.string c))

theorem exists_list {α : Type} {P : Nat → α → Prop} : ∀ (n : Nat), (∀ i, i < n → ∃ x, P i x) → ∃ l : List α, l.length = n ∧ ∀ i x, l[i]? = some x → P i x
  | 0, _ => ⟨[], rfl, fun i x h => by simp at h⟩
  | n + 1, h => by
    obtain ⟨l, hl, hp⟩ := exists_list n (fun i hi => h i (by omega))
    obtain ⟨x, hx⟩ := h n (by omega)
    refine ⟨l ++ [x], by simp [hl], fun i y hy => ?_⟩
    rcases Nat.lt_or_ge i n with hi | hi
    · rw [List.getElem?_append_left (by omega)] at hy; exact hp i y hy
    · have hlt := (List.getElem?_eq_some_iff.1 hy).1
      simp [hl] at hlt
      obtain rfl : i = n := by omega
      rw [List.getElem?_append_right (by omega), hl] at hy
      simp at hy
      subst hy
      exact hx

theorem add_plain (b off i : Nat) : (Addr.add ⟨b, off, none⟩ i) = ⟨b, off + i, none⟩ := by unfold Addr.add; split <;> simp_all

section
variable {H : Type} {enc : TypeId × Value → H} {P : Program} {w : World} {base : Nat} {spare : Nat → Bool} {held : Bool}

theorem open_slice_fields {t e : TypeId} {fs : Array Field} {fuel : Nat} {cs : List Value} {x : DataW H × List MemPlace} (ht : P.underlying t = some (.slice e)) (he : P.underlying e = some (.struct fs))
    (hone : oneCellFields P fs = true) (hC : P.cellsOf e = fs.size) (h : DataW.trod enc P w base spare held fuel t cs = some x) :
    (cs = [.slice none 0 0] ∧ x = (.nil, [])) ∨
    ∃ (a : Addr) (len cap m : Nat), cs = [.slice (some a) len cap] ∧ len ≤ cap ∧ cap ≤ maxLen ∧ m = (if spare a.block then cap else len) ∧
      ∀ i, i < m → ∀ (j : Nat) (f : Field), fs[j]? = some f → ∃ (v : Value) (y : DataW H × List MemPlace) (n : Nat), w.cell? (a.add (i * fs.size + j)) = some v ∧ DataW.trod enc P w base spare held n f.type [v] = some y := by
  rcases open_slice ht h with h0 | ⟨a, len, cap, m, n, D, Pl, hcs, hb, hl, hm, hmm, hx, hi⟩
  · exact .inl h0
  · refine .inr ⟨a, len, cap, m, hcs, hl, hm, hmm, fun i him j f hj => ?_⟩
    obtain ⟨cs', hc, ht'⟩ := hi i him
    rw [hC] at hc
    obtain ⟨ys, n', hn', hy, hlen, hyl, hf⟩ := DataW.trod_struct he ht'
    obtain ⟨_, hcl, hat⟩ := World.cells?_some hc
    obtain ⟨ho, hk⟩ := hone_of hone j f hj
    have hjl : j < fs.size := (Array.getElem?_eq_some_iff.1 hj).1
    have hcell := hat j hjl
    have hv : cs'[j]? = some (cs'[j]'(by omega)) := List.getElem?_eq_getElem (by omega)
    have h1 := hf j f hj
    rw [ho, hk] at h1
    have hone' : (cs'.drop j).take 1 = [cs'[j]'(by omega)] := by
      rw [List.drop_eq_getElem_cons (by omega)]
      rfl
    rw [hone'] at h1
    have hys : ys[j]? = some (ys[j]'(by omega)) := List.getElem?_eq_getElem (by omega)
    refine ⟨_, _, n', ?_, h1.trans hys⟩
    rw [← Go.Deep.add_add, hcell, hv]

def ksB (P : Program) (fs : Array Field) (ks : List FK) : Bool := (fs.size == ks.length && decide (0 < fs.size)) && (List.range fs.size).all fun j => match fs[j]?, ks[j]? with
  | some f, some k => FK.isB (P.underlying f.type) k
  | _, _ => false

theorem fk_of {k : FK} {t : TypeId} {v : Value} {y : DataW H × List MemPlace} {n : Nat} (hk : FK.isB (P.underlying t) k = true) (h : DataW.trod enc P w base spare held n t [v] = some y) : k.ok v := by
  cases k with
  | bool =>
    have : P.underlying t = some .bool := by
      unfold FK.isB at hk
      split at hk <;> simp_all
    exact cell_bool this h
  | string =>
    have : P.underlying t = some .string := by
      unfold FK.isB at hk
      split at hk <;> simp_all
    obtain ⟨s, e, _, hs⟩ := DataW.trod_string this h
    simp at e
    exact ⟨s, e, hs⟩
  | int k =>
    have : P.underlying t = some (.int k) := by
      unfold FK.isB at hk
      split at hk <;> simp_all
    exact cell_int this h

theorem aggRow_of {ks : List FK} {t e : TypeId} {fs : Array Field} {a : Option Addr} {len cap : Nat} {d : DataW H} {p : List MemPlace} (ht : P.underlying t = some (.slice e)) (he : P.underlying e = some (.struct fs))
    (hone : oneCellFields P fs = true) (hC : P.cellsOf e = fs.size) (hks : ksB P fs ks = true)
    (h : DataW.Trod enc P w 0 (fun _ => true) held t (.slice a len cap) d p) : ∃ D, IsAggRow ks w a len cap D := by
  obtain ⟨fuel, hf⟩ := h
  unfold ksB at hks
  rw [Bool.and_eq_true, List.all_eq_true] at hks
  obtain ⟨hn, hall⟩ := hks
  rw [Bool.and_eq_true] at hn
  have hpos : 0 < fs.size := by simpa using hn.2
  have hn : fs.size = ks.length := by simpa using hn.1
  rcases open_slice_fields ht he hone hC hf with ⟨hcs, _⟩ | ⟨x, l, c, m, hcs, hl, hm, hmm, hi⟩
  · simp [Value.cells] at hcs
    obtain ⟨rfl, rfl, rfl⟩ := hcs
    exact ⟨[], rfl, fun r hr => by simp at hr, Nat.le_refl _, Nat.zero_le _, .inl rfl⟩
  · simp [Value.cells] at hcs
    obtain ⟨rfl, rfl, rfl⟩ := hcs
    simp at hmm
    subst hmm
    have hrow : ∀ i, i < len → ∃ r : List Value, r.length = ks.length ∧ ∀ j v, r[j]? = some v → w.cell? (x.add (i * ks.length + j)) = some v ∧ ∀ k, ks[j]? = some k → k.ok v := by
      intro i hil
      refine exists_list ks.length (fun j hj => ?_)
      have hjf : j < fs.size := by omega
      obtain ⟨v, y, n, hc, ht'⟩ := hi i (by omega) j fs[j] (Array.getElem?_eq_getElem hjf)
      refine ⟨v, by rw [← hn]; exact hc, fun k hk => ?_⟩
      have h1 := hall j (by simpa using hjf)
      rw [Array.getElem?_eq_getElem hjf, hk] at h1
      exact fk_of h1 ht'
    obtain ⟨D, hD, hDr⟩ := exists_list len hrow
    refine ⟨D, hD, ?_, hl, hm, ?_⟩
    · intro r hr
      obtain ⟨i, hi', hri⟩ := List.getElem_of_mem hr
      obtain ⟨h1, h2⟩ := hDr i r (by rw [List.getElem?_eq_getElem hi', hri])
      refine ⟨h1, fun j k hk => ?_⟩
      have hj := (List.getElem?_eq_some_iff.1 hk).1
      have hj' : j < r.length := by omega
      exact ⟨r[j], List.getElem?_eq_getElem hj', (h2 j _ (List.getElem?_eq_getElem hj')).2 k hk⟩
    · rcases Nat.eq_zero_or_pos len with h0 | h0
      · exact .inl h0
      · obtain ⟨b, off, spot⟩ := x
        obtain ⟨r0, hr0⟩ : ∃ r, D[0]? = some r := ⟨_, List.getElem?_eq_getElem (by omega)⟩
        obtain ⟨g1, g2⟩ := hDr 0 r0 hr0
        have hj' : 0 < r0.length := by omega
        have hc := (g2 0 _ (List.getElem?_eq_getElem hj')).1
        have hspot : spot = none := by simpa [Addr.add] using World.cell?_spot hc
        subst hspot
        refine .inr ⟨b, off, rfl, World.block_lt_of_cell? _ _ (by simpa [Addr.add] using hc), ?_⟩
        intro i r j c hi' hj
        have := ((hDr i r hi').2 j c hj).1
        rwa [add_plain] at this

theorem boolRow_of {t e : TypeId} {a : Option Addr} {len cap : Nat} {d : DataW H} {p : List MemPlace} (ht : P.underlying t = some (.slice e)) (he : P.underlying e = some .bool) (hc : P.cellsOf e = 1)
    (h : DataW.Trod enc P w 0 (fun _ => true) held t (.slice a len cap) d p) : ∃ D, IsBoolRow w a len cap D := by
  obtain ⟨fuel, hf⟩ := h
  rcases open_bools ht he hc hf with ⟨hcs, _⟩ | ⟨x, l, c, B, hcs, _, hl, hm, _, hcell⟩
  · simp [Value.cells] at hcs
    obtain ⟨rfl, rfl, rfl⟩ := hcs
    exact ⟨[], rfl, Nat.le_refl _, Nat.zero_le _, .inl rfl⟩
  · simp [Value.cells] at hcs
    obtain ⟨rfl, rfl, rfl⟩ := hcs
    refine ⟨(List.range len).map B, by simp, hl, hm, ?_⟩
    rcases Nat.eq_zero_or_pos len with h0 | h0
    · exact .inl h0
    · obtain ⟨b, off, spot⟩ := x
      have hc := hcell 0 (by omega)
      have hspot : spot = none := by simpa [Addr.add] using World.cell?_spot hc
      subst hspot
      refine .inr ⟨b, off, rfl, World.block_lt_of_cell? _ _ (by simpa [Addr.add] using hc), ?_⟩
      intro i v hi
      have hlt := (List.getElem?_eq_some_iff.1 hi).1
      simp at hlt
      simp [hlt] at hi
      have := hcell i (by omega)
      rw [add_plain] at this
      rw [this, hi]

theorem strRow_of {t e : TypeId} {a : Option Addr} {len cap : Nat} {d : DataW H} {p : List MemPlace} (ht : P.underlying t = some (.slice e)) (he : P.underlying e = some .string) (hc : P.cellsOf e = 1)
    (h : DataW.Trod enc P w 0 (fun _ => true) held t (.slice a len cap) d p) : ∃ D, IsStrRow w a len cap D := by
  obtain ⟨fuel, hf⟩ := h
  rcases open_strings ht he hc hf with ⟨hcs, _⟩ | ⟨x, l, c, ss, hcs, _, hl, hm, hz, _, hcell, hss⟩
  · simp [Value.cells] at hcs
    obtain ⟨rfl, rfl, rfl⟩ := hcs
    exact ⟨[], rfl, fun s hs => by simp at hs, Nat.le_refl _, Nat.zero_le _, .inl rfl⟩
  · simp [Value.cells] at hcs
    obtain ⟨rfl, rfl, rfl⟩ := hcs
    simp at hz
    refine ⟨ss.take len, by rw [List.length_take]; omega, fun s hs => hss s (List.mem_of_mem_take hs), hl, hm, ?_⟩
    rcases Nat.eq_zero_or_pos len with h0 | h0
    · exact .inl h0
    · obtain ⟨b, off, spot⟩ := x
      have hc := hcell 0 (by omega)
      have hspot : spot = none := by simpa [Addr.add] using World.cell?_spot hc
      subst hspot
      refine .inr ⟨b, off, rfl, World.block_lt_of_cell? _ _ (by simpa [Addr.add] using hc), ?_⟩
      intro i v hi
      have hlt := (List.getElem?_eq_some_iff.1 hi).1
      rw [List.length_take] at hlt
      have := hcell i (by omega)
      rw [add_plain] at this
      rw [this]
      rw [List.getElem?_take_of_lt (by omega), List.getElem?_eq_getElem (by omega)] at hi
      rw [List.getD_eq_getElem?_getD, List.getElem?_eq_getElem (by omega)]
      simpa using hi
end
end Go.Proofs.Ytbkjanlkklmleaa
