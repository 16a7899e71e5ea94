/- Chapter 02: slices.Clone and slices.SortFunc at ranges. -/
import Derived.Test.YtbkjanlkklmleaaRgS
namespace Go.Proofs.Ytbkjanlkklmleaa
open Go.RowKit Go.Shelf
open Go.Lib (hid)
open Go.Sort (HoldsK SWO PermIn SortedIn grow alloc_eq_grow grow_grow)
set_option linter.unusedVariables false

/-- Where a slice lies: nowhere, or in a block. -/
def Flat (a : Option Addr) : Prop := a = none ∨ ∃ b off, a = some ⟨b, off, none⟩
theorem Flat.of_own {W : World} {B n c k : Nat} {e : TypeId} {A : Option Addr} {cs : List Value} (h : W.ownsRow B e k (.slice A n c) n cs) : Flat A := by
  rcases h.2 with ⟨e0, _⟩ | ⟨g, cap, cur, e0, _⟩
  · injection e0 with e1; exact .inl e1
  · injection e0 with e1; exact .inr ⟨g, 0, e1⟩
theorem Flat.of_rr {w : World} {a : Option Addr} {n cap : Nat} {l : List Rg} (h : RR w a n cap l) (hn : 0 < n) : Flat a := by
  obtain ⟨b, off, e, _⟩ := h.2.2.2 hn
  exact .inr ⟨b, off, e⟩
theorem size_rg : ∀ w, (Go.sizeOf 48).run Try.prog w = .ok 2 w := fun w => Try.sizeOf48 w
theorem isagg_rg : ∀ w, (Go.isAgg 48).run Try.prog w = .ok true w := fun w => Try.isAgg48 w
theorem clone_any (a : Option Addr) (n cap : Nat) (l : List Rg) (w : World) (hl : RR w a n cap l) (hf : Flat a) (hn : n ≤ 1000000) :
    Calls Try.prog 45 #[.slice a n cap] w fun e w' => RetW w e w' l := by
  obtain ⟨i0, hi, hz0, hz1, hz2⟩ := info_parts info_rg
  rcases hf with rfl | ⟨b, off, rfl⟩
  · have hn0 : n = 0 := by
      rcases Nat.eq_zero_or_pos n with h | h
      · exact h
      · obtain ⟨b, off, e, _⟩ := hl.2.2.2 h; cases e
    have hl0 : l = [] := List.eq_nil_of_length_eq_zero (by have := hl.1; omega)
    subst hl0
    refine (AnyE.slices_Clone_nil Try.cloneRg n cap w).mono ?_
    rintro e w' ⟨rfl, rfl⟩
    exact ⟨_, _, _, rfl, World.ownsRow_nil _ _ _ _, Below.refl _ _⟩
  · have hr := hl.reads
    refine (AnyE.slices_Clone Try.cloneRg i0 (.agg #[.int .i32 0, .int .i32 0]) 2 8 hi hz0 hz1 hz2 rfl (by decide) size_rg b off n cap (l.flatMap rgCells) w (by rw [rgCells_len, ← hl.1]) (by unfold maxLen; omega) (by omega) (fun j u hu => ?_) (rg_one l)).mono ?_
    · have hj : j < l.length * 2 := by
        have := (List.getElem?_eq_some_iff.1 hu).1
        rwa [rgCells_len] at this
      obtain ⟨p, e, _, hz⟩ := hr.2 (by have := hl.1; omega)
      obtain rfl := Option.some.inj e
      have := hz j u hu
      rwa [show (Addr.add ⟨b, off, none⟩ j) = ⟨b, off + j, none⟩ by unfold Addr.add; split <;> simp_all] at this
    · rintro e w' ⟨v', rfl, ho, _, hb⟩
      obtain ⟨A, c, rfl⟩ := owns_slice ho
      exact ⟨_, _, _, rfl, ho, hb⟩
set_option maxHeartbeats 1000000 in
/-- The order of merge's sort. -/
theorem cmp_any (x y : OkRg) (W : World) : Calls Try.prog 47 #[.agg (encRg x).toArray, .agg (encRg y).toArray] W fun e w' => e = .returned (.int .i64 (cfRg x y)) ∧ ∃ q os', w' = grow (W.drewN q) os' := by
  obtain ⟨⟨a, b⟩, h1⟩ := x
  obtain ⟨⟨c, d⟩, h2⟩ := y
  obtain ⟨k1, k2, k3⟩ := h1
  obtain ⟨k4, k5, k6⟩ := h2
  simp only at k1 k2 k3 k4 k5 k6
  have e1 : IntKind.i64.wrap a = a := IntWalk.i64_in _ (by omega)
  have e2 : IntKind.i64.wrap c = c := IntWalk.i64_in _ (by omega)
  have e3 : IntKind.i64.wrap (a - c) = a - c := IntWalk.i64_in _ (by omega)
  show Calls Try.prog _ #[.agg #[.int .i32 a, .int .i32 b], .agg #[.int .i32 c, .int .i32 d]] W fun e w' => e = .returned (.int .i64 (a - c)) ∧ _
  go_enter Try.func47, Try.ntmps47
  go_wp2_with fail
  go_ret
  exact ⟨rfl, 0, _, by rw [alloc_eq_grow, alloc_eq_grow, grow_grow]; rfl⟩
theorem cmpLays (blk off size : Nat) (w : World) : CmpLays Try.prog 47 #[] encRg 2 cfRg blk off size w :=
  fun _ _ _ _ x y => cmp_any x y _
theorem sort_any (A : Option Addr) (B n c : Nat) (e0 : TypeId) (l : List Rg) (w : World) (ho : w.ownsRow B e0 2 (.slice A n c) n (l.flatMap rgCells)) (hB : B ≤ w.heap.size) (hok : ∀ x ∈ l, okR x) (hn : n ≤ 1000000) :
    Calls Try.prog 46 #[.slice A n c, .func (.func 47) #[] #[]] w fun e w' => e = .returned (.tuple #[]) ∧ ∃ k : List Rg, k.Perm l ∧ k.Pairwise (fun x y => x.1 ≤ y.1) ∧ RR w' A n c k ∧ Below B w w' := by
  rcases Nat.eq_zero_or_pos n with h0 | h0
  · subst h0
    have hl0 : l = [] := List.eq_nil_of_length_eq_zero (by have := ho.1; rw [rgCells_len] at this; omega)
    subst hl0
    refine (AnyF.slices_SortFunc_none Try.sortRg A c _ w).mono ?_
    rintro e w' ⟨rfl, rfl⟩
    exact ⟨rfl, [], .nil, .nil, RR.of_own ho, Below.refl _ _⟩
  · obtain ⟨A', c', hv, hc1, hc2, hcc⟩ := owns_form ho
    injection hv with hA _ hc
    subst hA hc
    obtain ⟨g, rfl, hgB, hg, _⟩ := hcc h0
    have hnl : n = l.length := by have := ho.1; rw [rgCells_len] at this; omega
    have hd : (okArr l hok).size = n := by rw [okArr_size, hnl]
    have hH := holdsK_own ho hok
    have eg : ∀ args w, (callFunc 47 args).run Try.prog w = .ok (.enter 47 args) w := enters_of Try.func47 (by kernel_rfl) rfl
    have hcon := AnyQ.slices_SortFunc Try.sortRg 2 isagg_rg size_rg encRg enc_len enc_one cfRg swoRg 47 #[] g 0 c (okArr l hok) w eg (cmpLays g 0 _ w) hH hg (by rw [hd]; omega)
    rw [hd] at hcon
    refine hcon.mono ?_
    rintro e w' ⟨rfl, d', m, os, hp, hs, rfl⟩
    rw [← hd] at hp hs
    obtain ⟨q1, q2⟩ := sorted_list hp hs
    refine ⟨rfl, _, ?_, q2, rr_sorted hH hg hd hp.1 hc1 hc2, sortW_below (Below.refl B w) hgB hB⟩
    rw [okArr_map] at q1
    exact q1
end Go.Proofs.Ytbkjanlkklmleaa
