/- Chapter 16: all names, and a name's scalar: walks. -/
import Derived.Test.YtddbbgjpfdcjfaaDoorEnA
import Derived.BigQuiet
namespace Go.Proofs.YtddbbgjpfdcjfaaDoor
open Go.RowKit
open Go.Shelf
open Go.Lib (hid)
set_option linter.unusedVariables false

/-- What slices.IndexFunc answers of a predicate. -/
def FirstI (p : Nat → Bool) (n : Nat) (i : Int) : Prop := (i = -1 ∧ ∀ j, j < n → p j = false) ∨ ∃ k : Nat, k < n ∧ i = k ∧ p k = true ∧ ∀ j, j < k → p j = false

set_option maxHeartbeats 1000000 in
theorem indexrow_any (g : Nat) (cb : Array Value) (b n c : Nat) (xs : Nat → ByteArray × Int) (p : Nat → Bool) (w : World) (eg : ∀ args w, (callFunc g args).run Tryd.prog w = .ok (.enter g args) w) (hn : n ≤ 1000000) (hbl : b < w.heap.size)
    (hc : ∀ j, j < n → w.cell? ⟨b, j * 2, none⟩ = some (.string (xs j).1) ∧ w.cell? ⟨b, j * 2 + 1, none⟩ = some (.int .i32 (xs j).2))
    (hf : ∀ (W : World) (j : Nat), Below w.heap.size w W → j < n → Calls Tryd.prog g (#[.agg #[.string (xs j).1, .int .i32 (xs j).2]] ++ cb) W fun e w' => e = .returned (.bool (p j)) ∧ Below W.heap.size W w') :
    Calls Tryd.prog 29 #[.slice (some ⟨b, 0, none⟩) n c, .func (.func g) #[] cb] w fun e w' => ∃ i, e = .returned (.int .i64 i) ∧ FirstI p n i ∧ Below w.heap.size w w' := by
  have HF := hid hf
  have HC := hid hc
  clear hf hc
  go_enter Tryd.func29, Tryd.ntmps29
  go_wp2_with fail
  go_loopg [8] n (fun kx s8 wr => ∃ k : Nat, k ≤ n ∧ n - k ≤ kx ∧ s8 = .int .i64 k ∧ Hid (Below w.heap.size w wr) ∧ Hid (∀ j, j < k → p j = false))
  case atStart => exact ⟨0, Nat.zero_le _, by omega, rfl, Below.refl _ _, fun j hj => absurd hj (Nat.not_lt_zero _)⟩
  case round =>
    obtain ⟨k, hk, hg, rfl, HB, A⟩ := hrel
    by_cases hlt : k < n
    · have hlt' : (k : Int) < (n : Int) := by omega
      have c1 := (HB.out.cell (p := ⟨b, k * 2, none⟩) hbl).trans (HC.out k hlt).1
      have c2 := (HB.out.cell (p := ⟨b, k * 2 + 1, none⟩) hbl).trans (HC.out k hlt).2
      have hcl := HF.out wr k HB.out hlt
      generalize (xs k).1 = x1 at *
      generalize (xs k).2 = x2 at *
      have HCL := hid hcl
      clear hcl
      cases hp : p k <;> rw [hp] at HCL
      · have HP := hid hp
        clear hp
        go_wp2_with (go_at_fn g; refine HCL.out.mono ?_; rintro e w' ⟨rfl, hb2⟩; have HB2 := hid (HB.out.trans (hb2.mono HB.out.size)); clear hb2)
        go_roundg (n - (k + 1))
        case measure => omega
        case rel =>
          refine ⟨k + 1, by omega, Nat.le_refl _, by go_num, HB2, fun j hj => ?_⟩
          by_cases e : j = k
          · subst e; exact HP.out
          · exact A.out j (by omega)
      · have HP := hid hp
        clear hp
        go_wp2_with (go_at_fn g; refine HCL.out.mono ?_; rintro e w' ⟨rfl, hb2⟩; have HB2 := hid (HB.out.trans (hb2.mono HB.out.size)); clear hb2)
        go_ret
        exact ⟨_, rfl, .inr ⟨k, hlt, rfl, HP.out, A.out⟩, HB2.out⟩
    · have hlt' : ¬ (k : Int) < (n : Int) := by omega
      have HK := hid (show k = n by omega)
      go_wp2_with fail
      go_ret
      exact ⟨_, rfl, .inl ⟨rfl, by rw [← HK.out]; exact A.out⟩, HB.out⟩

set_option maxHeartbeats 1000000 in
theorem findclo_any (bx : Nat) (x n : ByteArray) (r : Int) (w : World) (hx : w.cell? ⟨bx, 0, none⟩ = some (.string x)) (hbl : bx < w.heap.size) :
    Calls Tryd.prog 30 #[.agg #[.string n, .int .i32 r], .pointer (some ⟨bx, 0, none⟩)] w fun e w' => e = .returned (.bool (decide (n = x))) ∧ Below w.heap.size w w' := by
  have hx2 : (w.alloc (.cells #[.string n, .int .i32 r] 52)).cell? ⟨bx, 0, none⟩ = some (.string x) := by
    rw [World.cell?_alloc_lt _ _ _ hbl]; exact hx
  by_cases h : n = x
  · rw [decide_eq_true h]
    subst h
    go_enter Tryd.func30, Tryd.ntmps30
    go_wp2_with fail
    go_ret
    exact ⟨rfl, (Below.refl _ _).alloc (Nat.le_refl _) _⟩
  · rw [decide_eq_false h]
    have hne := str_ne h
    go_enter Tryd.func30, Tryd.ntmps30
    go_wp2_with fail
    go_ret
    exact ⟨rfl, (Below.refl _ _).alloc (Nat.le_refl _) _⟩

theorem find_first {α : Type} (q : α → Bool) : ∀ (l : List α) (k : Nat) (h : k < l.length), q l[k] = true → (∀ j (hj : j < k), q (l[j]'(by omega)) = false) → l.find? q = some l[k]
  | x :: l, 0, h, h1, _ => by
    have : q x = true := h1
    rw [List.find?_cons_of_pos this]
    rfl
  | x :: l, k + 1, h, h1, h2 => by
    have : ¬ q x = true := by have := h2 0 (by omega); simpa using this
    rw [List.find?_cons_of_neg this]
    exact find_first q l k (by simpa using h) h1 fun j hj => h2 (j + 1) (by omega)
theorem find_nothing {α : Type} (q : α → Bool) (l : List α) (h : ∀ j (hj : j < l.length), q l[j] = false) : l.find? q = none := by
  rw [List.find?_eq_none]
  intro x hx
  obtain ⟨j, hj, rfl⟩ := List.mem_iff_getElem.1 hx
  simp [h j hj]
def nameAt (j : Nat) : ByteArray × Int := names.getD j (⟨#[]⟩, 0)
theorem nameAt_is {j : Nat} (h : j < names.length) : nameAt j = names[j] := by
  unfold nameAt
  rw [List.getD_eq_getElem?_getD, List.getElem?_eq_getElem h]
  rfl
theorem found_name {x : ByteArray} {i : Int} (h : FirstI (fun j => decide ((nameAt j).1 = x)) 26 i) : (i = -1 ∧ findN x = none) ∨ ∃ k : Nat, k < 26 ∧ i = k ∧ findN x = some (nameAt k).2 := by
  have hl := names_len
  rcases h with ⟨rfl, h⟩ | ⟨k, hk, rfl, h1, h2⟩
  · refine .inl ⟨rfl, ?_⟩
    unfold findN
    rw [find_nothing _ names fun j hj => by rw [← nameAt_is hj]; exact h j (by omega)]
    rfl
  · refine .inr ⟨k, hk, rfl, ?_⟩
    unfold findN
    rw [find_first (fun x_1 => decide (x_1.1 = x)) names k (by omega) (by rw [← nameAt_is (by omega)]; exact h1) (fun j hj => by rw [← nameAt_is (by omega)]; exact h2 j hj), nameAt_is (by omega)]
    rfl

set_option maxHeartbeats 1000000 in
theorem find_any (x : ByteArray) (w : World) : Calls Tryd.prog 15 #[.string x] w fun e w' => e = .returned (.tuple #[.int .i32 ((findN x).getD 0), .bool (findN x).isSome]) ∧ Below w.heap.size w w' := by
  go_enter Tryd.func15, Tryd.ntmps15
  go_wp2_with (first
    | (go_at_call 28; refine (rows_any _).mono ?_; rintro e w1 ⟨rfl, hb⟩)
    | (with_reducible refine wpList_allocZ 4 53 _ zeroRows 53 zeroRows_run ?_)
    | ((with_reducible refine wpList_store_row (o := ⟨none, .store 53 (.tmp 4) (.tmp 6), _, _, _, _⟩) rfl 53 _ _ rfl w1.heap.size rowsV rfl rfl 53 zeroRows (heap_alloc_new _ _) rows_info zeroRows_size rows_one ?_)))
  have hs := hb.size
  simp only [World.size_alloc] at hs
  have HR := hid (setRow_heap _ _ zeroRows rowsV 53 (0, 0) (heap_alloc_new w1 (.cells zeroRows 53)))
  have hB : Below w.heap.size w ((w1.alloc (.cells zeroRows 53)).setRow w1.heap.size rowsV) := by
    refine (((Below.refl w.heap.size w).alloc (Nat.le_refl _) _).trans (hb.mono (by simp))).trans ?_
    exact ⟨rfl, rfl, rfl, by simp, fun k hk => by rw [setRow_other _ _ _ _ (by omega)]; exact Below.heap_alloc _ _ _ (by omega)⟩
  have hX : ((w1.alloc (.cells zeroRows 53)).setRow w1.heap.size rowsV).cell? ⟨w.heap.size, 0, none⟩ = some (.string x) := by
    rw [cell_setRow_other _ _ _ _ (by simp; omega), World.cell?_alloc_old _ _ _ (by simp; omega), hb.cell (by simp)]
    simp
  have hl1 : w1.heap.size < ((w1.alloc (.cells zeroRows 53)).setRow w1.heap.size rowsV).heap.size := by simp
  have hl2 : w.heap.size < ((w1.alloc (.cells zeroRows 53)).setRow w1.heap.size rowsV).heap.size := by simp; omega
  have HB := hid hB
  have HX := hid hX
  clear hB hb hX hs
  generalize (w1.alloc (.cells zeroRows 53)).setRow w1.heap.size rowsV = W1 at *
  generalize w1.heap.size = bl at *
  have hcells : ∀ j, j < 26 → W1.cell? ⟨bl, j * 2, none⟩ = some (.string (nameAt j).1) ∧ W1.cell? ⟨bl, j * 2 + 1, none⟩ = some (.int .i32 (nameAt j).2) := by
    intro j hj
    have := rowsV_get j (by rw [names_len]; exact hj)
    rw [cell_of_row _ _ _ _ _ _ HR.out, cell_of_row _ _ _ _ _ _ HR.out, nameAt_is (by rw [names_len]; exact hj)]
    exact this
  have HCE := hid hcells
  clear hcells
  refine (indexrow_any 30 #[.pointer (some ⟨w.heap.size, 0, none⟩)] bl 26 26 nameAt (fun j => decide ((nameAt j).1 = x)) W1 (fun _ _ => by kernel_rfl) (by omega) hl1 HCE.out (fun W j hW hj => findclo_any w.heap.size x _ _ W ((hW.cell (p := ⟨w.heap.size, 0, none⟩) hl2).trans HX.out) (Nat.lt_of_lt_of_le hl2 hW.size))).mono ?_
  rintro e w2 ⟨i, rfl, hi, hb2⟩
  have HB2 := hid (HB.out.trans (hb2.mono HB.out.size))
  rcases found_name hi with ⟨rfl, hf⟩ | ⟨k, hk, rfl, hf⟩
  · have HF := hid hf
    clear hf hb2 hi
    go_wp2_with fail
    go_ret2
    rw [HF.out]
    exact ⟨rfl, HB2.out⟩
  · have hc2 := (hb2.cell (p := ⟨bl, k * 2 + 1, none⟩) hl1).trans (HCE.out k hk).2
    generalize (nameAt k).2 = r at *
    have HF := hid hf
    have hk0 : ¬ (k : Int) < 0 := by omega
    have hk26 : (k : Int) < 26 := by omega
    clear hf hb2 hi HCE
    go_wp2_with fail
    go_ret2
    rw [HF.out]
    exact ⟨rfl, HB2.out⟩
end Go.Proofs.YtddbbgjpfdcjfaaDoor
