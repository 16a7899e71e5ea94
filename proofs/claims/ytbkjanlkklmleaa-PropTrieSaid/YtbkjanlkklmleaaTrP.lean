/- Chapter 03: what a trie's builder holds: the plain law. -/
import Derived.Test.YtbkjanlkklmleaaPsP
namespace Go.Proofs.Ytbkjanlkklmleaa
open Go.RowKit
set_option linter.unusedVariables false

/-- A builder: of each place the last entry that has all of it (0: none), and those behind it that have some. -/
structure Bs where
  whole : Nat → Nat
  parts : Nat → List Nat
def updN {α : Type} (f : Nat → α) (p : Nat) (x : α) : Nat → α := fun q => if q = p then x else f q
theorem updN_at {α : Type} (f : Nat → α) (p : Nat) (x : α) : updN f p x p = x := if_pos rfl
def colF (E : Nat → List Rg × Int) (l : List Nat) (r c : Int) : Int := l.foldl (fun c i => if inB (E i).1 r = true then (E i).2 else c) c
def baseC (E : Nat → List Rg × Int) (o : Int) (s : Bs) (p : Nat) : Int := if 0 < s.whole p then (E (s.whole p - 1)).2 else o
/-- The class of a number of a place, by the builder. -/
def colP (E : Nat → List Rg × Int) (o : Int) (s : Bs) (p : Nat) (r : Int) : Int := colF E (s.parts p) r (baseC E o s p)
/-- The class of a number, by the first i entries. -/
def specN (E : Nat → List Rg × Int) (o : Int) : Nat → Int → Int
  | 0, _ => o
  | i + 1, r => if inB (E i).1 r = true then (E i).2 else specN E o i r
def pgI (p : Nat) (r : Int) : Prop := (p : Int) * 256 ≤ r ∧ r ≤ (p : Int) * 256 + 255
def touch (i : Nat) (x : Rg) (p : Nat) (s : Bs) : Bs :=
  if x.1 ≤ (p : Int) * 256 ∧ (p : Int) * 256 + 255 ≤ x.2 then ⟨updN s.whole p (i + 1), updN s.parts p []⟩
  else if (s.parts p).getLast? = some i then s else ⟨s.whole, updN s.parts p (s.parts p ++ [i])⟩
theorem touch_other {i : Nat} {x : Rg} {p q : Nat} {s : Bs} (h : q ≠ p) : (touch i x p s).whole q = s.whole q ∧ (touch i x p s).parts q = s.parts q := by
  unfold touch
  split
  · exact ⟨if_neg h, if_neg h⟩
  · split
    · exact ⟨rfl, rfl⟩
    · exact ⟨rfl, if_neg h⟩
theorem colP_congr {E : Nat → List Rg × Int} {o : Int} {s s' : Bs} {p : Nat} (h : s'.whole p = s.whole p ∧ s'.parts p = s.parts p) (r : Int) : colP E o s' p r = colP E o s p r := by
  unfold colP baseC
  rw [h.1, h.2]
theorem colF_snoc (E : Nat → List Rg × Int) (l : List Nat) (i : Nat) (r c : Int) : colF E (l ++ [i]) r c = if inB (E i).1 r = true then (E i).2 else colF E l r c := by
  unfold colF
  rw [List.foldl_append]
  rfl
theorem inB_of {l : List Rg} {x : Rg} {r : Int} (hx : x ∈ l) (h1 : x.1 ≤ r) (h2 : r ≤ x.2) : inB l r = true := (inB_iff l r).2 ⟨x, hx, h1, h2⟩
/-- A place's numbers have the classes of the entries before, or those of this one too. -/
def Und (E : Nat → List Rg × Int) (o : Int) (s : Bs) (i p : Nat) : Prop := ∀ r, pgI p r → colP E o s p r = specN E o i r
theorem touch_done {E : Nat → List Rg × Int} {o : Int} {s : Bs} {i p : Nat} {x : Rg} (hx : x ∈ (E i).1) (h : Und E o s i p ∨ Und E o s (i + 1) p) : Und E o (touch i x p s) (i + 1) p := by
  intro r hr
  have hs : specN E o (i + 1) r = if inB (E i).1 r = true then (E i).2 else specN E o i r := rfl
  have hkey : colP E o s p r = specN E o i r ∨ colP E o s p r = specN E o (i + 1) r := h.elim (fun h => .inl (h r hr)) fun h => .inr (h r hr)
  unfold touch
  split
  · rename_i hc
    have hin := inB_of (r := r) hx (by have := hr.1; omega) (by have := hr.2; omega)
    rw [hs, if_pos hin]
    unfold colP baseC
    show colF E (updN s.parts p [] p) r (if 0 < updN s.whole p (i + 1) p then (E (updN s.whole p (i + 1) p - 1)).2 else o) = _
    rw [updN_at, updN_at, if_pos (Nat.succ_pos i), Nat.add_sub_cancel]
    rfl
  · split
    · rename_i hl
      obtain ⟨l, hl⟩ : ∃ l, s.parts p = l ++ [i] := by
        rcases list_snoc (s.parts p) with e | ⟨l, z, e⟩
        · rw [e] at hl; cases hl
        · rw [e, List.getLast?_append] at hl
          have : z = i := by simpa using hl
          exact ⟨l, by rw [e, this]⟩
      have hc : colP E o s p r = if inB (E i).1 r = true then (E i).2 else colF E l r (baseC E o s p) := by
        unfold colP
        rw [hl, colF_snoc]
      rw [hs]
      cases hb : inB (E i).1 r with
      | true => rw [hc, hb, if_pos rfl, if_pos rfl]
      | false =>
        rw [if_neg (by decide)]
        rcases hkey with h | h
        · exact h
        · rw [h, hs, hb, if_neg (by decide)]
    · have hc : colP E o ⟨s.whole, updN s.parts p (s.parts p ++ [i])⟩ p r = if inB (E i).1 r = true then (E i).2 else colP E o s p r := by
        unfold colP
        show colF E (updN s.parts p (s.parts p ++ [i]) p) r _ = _
        rw [updN_at, colF_snoc]
        rfl
      rw [hc, hs]
      cases hb : inB (E i).1 r with
      | true => rfl
      | false =>
        rw [if_neg (by decide), if_neg (by decide)]
        rcases hkey with h | h
        · exact h
        · rw [h, hs, hb, if_neg (by decide)]
/-- Where spread stands: range j of entry i, its place q. -/
structure SpInv (E : Nat → List Rg × Int) (o : Int) (s : Bs) (i j : Nat) (q : Int) : Prop where
  all : ∀ p, Und E o s i p ∨ Und E o s (i + 1) p
  past : ∀ k (h : k < (E i).1.length), k < j → ∀ p : Nat, (E i).1[k].1 / 256 ≤ p → (p : Int) ≤ (E i).1[k].2 / 256 → Und E o s (i + 1) p
  now : ∀ h : j < (E i).1.length, ∀ p : Nat, (E i).1[j].1 / 256 ≤ p → (p : Int) < q → Und E o s (i + 1) p
theorem SpInv.start {E : Nat → List Rg × Int} {o : Int} {s : Bs} {i : Nat} (h : ∀ p, Und E o s i p) : SpInv E o s i 0 0 :=
  ⟨fun p => .inl (h p), fun k _ hk => absurd hk (Nat.not_lt_zero _), fun _ p h1 h2 => by omega⟩
theorem SpInv.begin_ {E : Nat → List Rg × Int} {o : Int} {s : Bs} {i j : Nat} {q : Int} (h : SpInv E o s i j q) (hj : j < (E i).1.length) : SpInv E o s i j ((E i).1[j].1 / 256) :=
  ⟨h.all, h.past, fun _ p h1 h2 => by omega⟩
theorem SpInv.touch_ {E : Nat → List Rg × Int} {o : Int} {s : Bs} {i j p : Nat} (h : SpInv E o s i j p) (hj : j < (E i).1.length) : SpInv E o (touch i (E i).1[j] p s) i j (p + 1 : Nat) := by
  have ht := touch_done (List.getElem_mem hj) (h.all p)
  have ho : ∀ {q : Nat} {n : Nat}, q ≠ p → Und E o s n q → Und E o (touch i (E i).1[j] p s) n q := fun hq hu r hr => (colP_congr (touch_other hq) r).trans (hu r hr)
  refine ⟨fun q => ?_, fun k hk hkj q h1 h2 => ?_, fun _ q h1 h2 => ?_⟩
  · by_cases hq : q = p
    · subst hq; exact .inr ht
    · exact (h.all q).imp (ho hq) (ho hq)
  · by_cases hq : q = p
    · subst hq; exact ht
    · exact ho hq (h.past k hk hkj q h1 h2)
  · by_cases hq : q = p
    · subst hq; exact ht
    · exact ho hq (h.now hj q h1 (by omega))
theorem SpInv.next {E : Nat → List Rg × Int} {o : Int} {s : Bs} {i j : Nat} {q : Int} (h : SpInv E o s i j q) (hj : j < (E i).1.length) (hq : (E i).1[j].2 / 256 < q) : SpInv E o s i (j + 1) 0 :=
  ⟨h.all, fun k hk hkj p h1 h2 => by
    by_cases e : k = j
    · subst e; exact h.now hk p h1 (by omega)
    · exact h.past k hk (by omega) p h1 h2, fun _ p h1 h2 => by omega⟩
theorem SpInv.done {E : Nat → List Rg × Int} {o : Int} {s : Bs} {i j : Nat} {q : Int} (h : SpInv E o s i j q) (hj : (E i).1.length ≤ j) : ∀ p, Und E o s (i + 1) p := by
  intro p r hr
  rcases h.all p with hu | hu
  · have hs : specN E o (i + 1) r = if inB (E i).1 r = true then (E i).2 else specN E o i r := rfl
    cases hb : inB (E i).1 r with
    | false => rw [hs, hb, if_neg (by decide)]; exact hu r hr
    | true =>
      obtain ⟨x, hx, h1, h2⟩ := (inB_iff _ _).1 hb
      obtain ⟨k, hk, rfl⟩ := List.mem_iff_getElem.1 hx
      have ha := hr.1
      have hb2 := hr.2
      exact h.past k hk (by omega) p (by omega) (by omega) r hr
  · exact hu r hr
/-- Of each place the entries rise, and none is behind the last one. -/
def PtOk (s : Bs) (i : Nat) : Prop := ∀ p, (s.parts p).Pairwise (· < ·) ∧ (∀ k ∈ s.parts p, k < i) ∧ s.whole p ≤ i
theorem rise_len : ∀ (l : List Nat) (a i : Nat), l.Pairwise (· < ·) → (∀ k ∈ l, a ≤ k ∧ k < i) → l = [] ∨ a + l.length ≤ i
  | [], _, _, _, _ => .inl rfl
  | y :: l, a, i, h1, h2 => by
    rw [List.pairwise_cons] at h1
    have hy := h2 y (List.mem_cons_self ..)
    right
    rw [List.length_cons]
    rcases rise_len l (y + 1) i h1.2 fun k hk => ⟨h1.1 k hk, (h2 k (List.mem_cons_of_mem _ hk)).2⟩ with e | e
    · rw [e, List.length_nil]; omega
    · omega
theorem PtOk.len {s : Bs} {i : Nat} (h : PtOk s i) (p : Nat) : (s.parts p).length ≤ i := by
  rcases rise_len _ 0 i (h p).1 fun k hk => ⟨Nat.zero_le _, (h p).2.1 k hk⟩ with e | e
  · rw [e]; exact Nat.zero_le _
  · omega
theorem PtOk.touch_ {s : Bs} {i : Nat} (h : PtOk s (i + 1)) (hl : ∀ p, (∀ k ∈ s.parts p, k < i) ∨ (s.parts p).getLast? = some i) (x : Rg) (p : Nat) : PtOk (touch i x p s) (i + 1) ∧ ∀ q, (∀ k ∈ (touch i x p s).parts q, k < i) ∨ ((touch i x p s).parts q).getLast? = some i := by
  have hq : ∀ q, q ≠ p → ((touch i x p s).parts q = s.parts q ∧ (touch i x p s).whole q = s.whole q) := fun q hq => ⟨(touch_other hq).2, (touch_other hq).1⟩
  constructor
  · intro q
    by_cases e : q = p
    · subst e
      unfold touch
      split
      · refine ⟨?_, ?_, ?_⟩
        · show (updN s.parts q [] q).Pairwise _
          rw [updN_at]; exact List.Pairwise.nil
        · show ∀ k ∈ updN s.parts q [] q, _
          rw [updN_at]; intro k hk; cases hk
        · show updN s.whole q (i + 1) q ≤ _
          rw [updN_at]; exact Nat.le_refl _
      · split
        · exact h q
        · rename_i hn
          have hlt := (hl q).resolve_right hn
          refine ⟨?_, ?_, (h q).2.2⟩
          · show (updN s.parts q (s.parts q ++ [i]) q).Pairwise _
            rw [updN_at]
            exact List.pairwise_append.2 ⟨(h q).1, by simp, fun a ha b hb => by rw [List.mem_singleton.1 hb]; exact hlt a ha⟩
          · show ∀ k ∈ updN s.parts q (s.parts q ++ [i]) q, _
            rw [updN_at]
            intro k hk
            rcases List.mem_append.1 hk with hk | hk
            · have := hlt k hk; omega
            · rw [List.mem_singleton.1 hk]; omega
    · rw [(hq q e).1, (hq q e).2]; exact h q
  · intro q
    by_cases e : q = p
    · subst e
      unfold touch
      split
      · left
        show ∀ k ∈ updN s.parts q [] q, _
        rw [updN_at]; intro k hk; cases hk
      · split
        · exact hl q
        · right
          show (updN s.parts q (s.parts q ++ [i]) q).getLast? = _
          rw [updN_at, List.getLast?_append]
          simp
    · rw [(hq q e).1]; exact hl q
/-- What each entry of prop.Trie is. -/
def propE (i : Nat) : List Rg × Int := (toldL (i + 1), (i + 1 : Int))
theorem spec_prop (r : Int) (h0 : 0 ≤ r) (h1 : r ≤ 1114111) : specN propE 0 35 r = C4.cls r := by
  have hin : ∀ c : Nat, 1 ≤ c → c < 36 → (inB (toldL c) r = true ↔ C4.cls r = c) := fun c a b => by
    rw [inB_iff]
    constructor
    · rintro ⟨x, hx, q⟩; exact told_cls a b ⟨x, hx, q⟩
    · intro e
      rcases cls_told r with k0 | ⟨d, k1, k2, k3, k4⟩
      · omega
      · obtain rfl : c = d := by omega
        exact k4
  have hn : ∀ n, n ≤ 35 → ((∃ c : Nat, 1 ≤ c ∧ c ≤ n ∧ C4.cls r = c) → specN propE 0 n r = C4.cls r) ∧ ((¬ ∃ c : Nat, 1 ≤ c ∧ c ≤ n ∧ C4.cls r = c) → specN propE 0 n r = 0) := by
    intro n
    induction n with
    | zero => intro _; exact ⟨fun ⟨c, a, b, _⟩ => by omega, fun _ => rfl⟩
    | succ n ih =>
      intro hn
      obtain ⟨i1, i2⟩ := ih (by omega)
      have hs : specN propE 0 (n + 1) r = if inB (toldL (n + 1)) r = true then ((n : Int) + 1) else specN propE 0 n r := rfl
      have hc := hin (n + 1) (by omega) (by omega)
      rw [hs]
      by_cases hb : inB (toldL (n + 1)) r = true
      · have hcl := hc.1 hb
        rw [if_pos hb]
        exact ⟨fun _ => by rw [hcl]; rfl, fun hx => absurd ⟨n + 1, by omega, Nat.le_refl _, hcl⟩ hx⟩
      · rw [if_neg hb]
        refine ⟨fun ⟨c, a, b, e⟩ => i1 ⟨c, a, ?_, e⟩, fun hx => i2 fun ⟨c, a, b, e⟩ => hx ⟨c, a, by omega, e⟩⟩
        rcases Nat.lt_or_ge n c with q | q
        · obtain rfl : c = n + 1 := by omega
          exact absurd (hc.2 e) hb
        · exact q
  obtain ⟨a, b⟩ := hn 35 (Nat.le_refl _)
  by_cases hex : ∃ c : Nat, 1 ≤ c ∧ c ≤ 35 ∧ C4.cls r = c
  · exact a hex
  · rw [b hex]
    rcases cls_told r with k0 | ⟨d, k1, k2, k3, k4⟩
    · exact k0.symm
    · exact absurd ⟨d, k1, by omega, k3⟩ hex
end Go.Proofs.Ytbkjanlkklmleaa
