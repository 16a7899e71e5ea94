/- Chapter 16: the names as a list; whether one begins so: walks. -/
import Derived.Test.YtddbbgjpfdcjfaaDoorEnB
import Derived.Deep.Cut
import Derived.Deep.RegionWith
namespace Go.Proofs.YtddbbgjpfdcjfaaDoor
open Go.RowKit
open Go.Shelf
open Go.Lib (hid)
set_option linter.unusedVariables false

set_option maxRecDepth 100000 in
theorem index_rows (k : Nat) (hk : k < 26) (w : World) : (Instr.index 53 (.agg rowsV) (.int .i64 k)).run Tryd.prog w = .ok (.agg #[.string (nameAt k).1, .int .i32 (nameAt k).2]) w := by
  have h : k = 0 ∨ k = 1 ∨ k = 2 ∨ k = 3 ∨ k = 4 ∨ k = 5 ∨ k = 6 ∨ k = 7 ∨ k = 8 ∨ k = 9 ∨ k = 10 ∨ k = 11 ∨ k = 12 ∨ k = 13 ∨ k = 14 ∨ k = 15 ∨ k = 16 ∨ k = 17 ∨ k = 18 ∨ k = 19 ∨ k = 20 ∨ k = 21 ∨ k = 22 ∨ k = 23 ∨ k = 24 ∨ k = 25 := by omega
  rcases h with rfl | rfl | rfl | rfl | rfl | rfl | rfl | rfl | rfl | rfl | rfl | rfl | rfl | rfl | rfl | rfl | rfl | rfl | rfl | rfl | rfl | rfl | rfl | rfl | rfl | rfl
  all_goals (show _ = _; kernel_rfl)
def strsOf (l : List (ByteArray × Int)) : List Value := l.map fun x => .string x.1
theorem strsOf_snoc (l : List (ByteArray × Int)) (x : ByteArray × Int) : strsOf (l ++ [x]) = strsOf l ++ [.string x.1] := by simp [strsOf]
theorem take_names {k : Nat} (h : k < 26) : names.take (k + 1) = names.take k ++ [nameAt k] := by
  have hl : k < names.length := by rw [names_len]; exact h
  rw [List.take_add_one, List.getElem?_eq_getElem hl, nameAt_is hl]
  rfl
theorem reads_blk1 {w : World} {q : Nat} {t : TypeId} {x : Value} (h : Blk w q t #[x]) : Reads w w.heap.size 1 (some ⟨q, 0, none⟩) 1 [x] := by
  refine ⟨rfl, fun _ => ⟨_, rfl, h.lt, fun j u hu => ?_⟩⟩
  have e : (Addr.add ⟨q, 0, none⟩ j) = ⟨q, j, none⟩ := by unfold Addr.add; split <;> simp_all
  rw [e, h.cell j]
  simpa using hu
theorem info_str : (Tryd.prog.info? 9).map (fun i => (i.zero, i.size, i.bytes)) = some (some (.string ⟨#[]⟩), 1, 16) := by kernel_rfl

set_option maxRecDepth 100000 in
set_option maxHeartbeats 4000000 in
theorem names_any (w : World) : Calls Tryd.prog 13 #[] w fun e w' => ∃ v, e = .returned v ∧ w'.ownsRow w.heap.size 9 1 v 26 (strsOf names) ∧ Below w.heap.size w w' := by
  obtain ⟨i0, hi0, hz0, hz1, hz2⟩ := info_parts info_str
  have hix := index_rows
  have HIX := hid hix
  clear hix
  go_enter Tryd.func13, Tryd.ntmps13
  go_wp2_with (go_at_call 28; refine (rows_any _).mono ?_; rintro e w1 ⟨rfl, hb⟩; have HB1 := hid hb; clear hb)
  go_loopg [1, 5] 26 (fun kx s1 s5 wr => ∃ (k : Nat) (v : Value), s1 = v ∧ s5 = .int .i64 k ∧ k ≤ 26 ∧ 26 - k ≤ kx ∧ Hid (wr.ownsRow w.heap.size 9 1 v k (strsOf (names.take k))) ∧ Hid (Below w.heap.size w wr))
  case atStart => exact ⟨0, .slice none 0 0, rfl, rfl, Nat.zero_le _, by omega, ⟨rfl, .inl ⟨rfl, rfl⟩⟩, HB1.out⟩
  case round =>
    obtain ⟨k, v, rfl, rfl, hk, hg, HOWN, HB⟩ := hrel
    by_cases hlt : k < 26
    · have hlt' : (k : Int) < 26 := by omega
      have hix := fun W => HIX.out k hlt W
      have htk := take_names hlt
      generalize nameAt k = x at *
      have HTK := hid htk
      clear htk
      obtain ⟨x1, x2⟩ := x
      simp only at hix
      go_upto_region 5 with fail
      have hb2 := HB.out.alloc HB.out.size (.cells #[.string x1, .int .i32 x2] 52)
      have hown2 := own_kept HOWN.out (grown_alloc wr (.cells #[.string x1, .int .i32 x2] 52) none) fun _ _ e => by cases e
      have hr2 := (Blk.new wr 52 #[.string x1, .int .i32 x2])
      generalize wr.alloc (.cells #[.string x1, .int .i32 x2] 52) = w2 at *
      have hcell := hr2.cell 0
      simp only [List.getElem?_toArray, List.getElem?_cons_zero] at hcell
      obtain ⟨A0, cp0, rfl⟩ := owns_slice hown2
      have HOWN2 := hid hown2
      have HB2 := hid hb2
      clear hb2 hown2 hr2
      go_wp2_with (at_builtin; go_must (refine wpList_append_any _ rfl (.tmp 8) (.tmp 11) 29 rfl w.heap.size 9 i0 (.string ⟨#[]⟩) 1 16 Tryd.underlying29 hi0 hz0 hz1 hz2 rfl (by decide) (.slice A0 k cp0) k (strsOf (names.take k)) rfl (HOWN2.out.alloc _) _ (some ⟨w2.heap.size, 0, none⟩) 1 1 [.string x1] rfl (reads_blk1 (Blk.new w2 _ _)) (by simp [Value.oneCell']) (by unfold maxLen; omega) (by omega) (by have := HB2.out.size; simp; omega) ?_); intro v' w6 ho6 hg6 hl6; have hb6 := (HB2.out.alloc HB2.out.size _).grown hg6 (by have := HB2.out.size; simp; omega) (own_ge HOWN2.out); have HO6 := hid ho6; have HB6 := hid hb6; clear ho6 hg6 hl6 hb6)
      go_roundg (26 - (k + 1))
      case measure => omega
      case rel =>
        refine ⟨k + 1, _, rfl, by go_num, by omega, Nat.le_refl _, ?_, HB6⟩
        show World.ownsRow _ _ _ _ _ _ _
        rw [HTK.out, strsOf_snoc]
        exact HO6.out
    · have hlt' : ¬ (k : Int) < 26 := by omega
      have HK := hid (show k = 26 by omega)
      have hta : names.take 26 = names := by rw [← names_len, List.take_length]
      have how := HOWN.out
      rw [HK.out, hta] at how
      have HOW := hid how
      clear how hta
      go_wp2_with fail
      go_ret
      exact ⟨_, rfl, HOW.out, HB.out⟩

theorem wpList_buildsK {P : Program} {ops : Array Oper} {w : World} {Q : Exit → Act → World → Prop} (n : Nat) (l : List Oper) (a : Act) (h : (builds P (l.take n) a).isSome = true) (hr : ∀ a', builds P (l.take n) a = some a' → wpList P ops Q (l.drop n) a' w) : wpList P ops Q l a w := by
  obtain ⟨a', ha⟩ := Option.isSome_iff_exists.1 h
  exact wpList_buildsN n l a a' ha (hr a' ha)

set_option maxHeartbeats 1000000 in
theorem indexstr_any (g : Nat) (cb : Array Value) (b n c : Nat) (xs : Nat → ByteArray) (p : Nat → Bool) (w : World) (eg : ∀ args w, (callFunc g args).run Tryd.prog w = .ok (.enter g args) w) (hn : n ≤ 1000000) (hbl : b < w.heap.size)
    (hc : ∀ j, j < n → w.cell? ⟨b, j, none⟩ = some (.string (xs j)))
    (hf : ∀ (W : World) (j : Nat), Below w.heap.size w W → j < n → Calls Tryd.prog g (#[.string (xs j)] ++ cb) W fun e w' => e = .returned (.bool (p j)) ∧ w' = W) :
    Calls Tryd.prog 37 #[.slice (some ⟨b, 0, none⟩) n c, .func (.func g) #[] cb] w fun e w' => ∃ i, e = .returned (.int .i64 i) ∧ FirstI p n i ∧ w' = w := by
  have HF := hid hf
  have HC := hid hc
  clear hf hc
  go_enter Tryd.func37, Tryd.ntmps37
  go_wp2_with fail
  go_loopg [8] n (fun kx s8 wr => ∃ k : Nat, k ≤ n ∧ n - k ≤ kx ∧ s8 = .int .i64 k ∧ wr = w ∧ Hid (∀ j, j < k → p j = false))
  case atStart => exact ⟨0, Nat.zero_le _, by omega, rfl, rfl, fun j hj => absurd hj (Nat.not_lt_zero _)⟩
  case round =>
    obtain ⟨k, hk, hg, rfl, hw, A⟩ := hrel
    obtain rfl : w = wr := hw.symm
    by_cases hlt : k < n
    · have hlt' : (k : Int) < (n : Int) := by omega
      have c1 := HC.out k hlt
      have hcl := HF.out w k (Below.refl _ _) hlt
      generalize xs k = x1 at *
      have HCL := hid hcl
      clear hcl
      cases hp : p k <;> rw [hp] at HCL
      · have HP := hid hp
        clear hp
        go_wp2_with (go_at_fn g; refine HCL.out.mono ?_; rintro e w' ⟨rfl, hw'⟩; obtain rfl : w = w' := hw'.symm)
        go_roundg (n - (k + 1))
        case measure => omega
        case rel =>
          refine ⟨k + 1, by omega, Nat.le_refl _, by go_num, rfl, fun j hj => ?_⟩
          by_cases e : j = k
          · subst e; exact HP.out
          · exact A.out j (by omega)
      · have HP := hid hp
        clear hp
        go_wp2_with (go_at_fn g; refine HCL.out.mono ?_; rintro e w' ⟨rfl, hw'⟩; obtain rfl : w = w' := hw'.symm)
        go_ret
        exact ⟨_, rfl, .inr ⟨k, hlt, rfl, HP.out, A.out⟩, rfl⟩
    · have hlt' : ¬ (k : Int) < (n : Int) := by omega
      have HK := hid (show k = n by omega)
      go_wp2_with fail
      go_ret
      exact ⟨_, rfl, .inl ⟨rfl, by rw [← HK.out]; exact A.out⟩, rfl⟩

theorem openclo_any (bx : Nat) (x n : ByteArray) (w : World) (hx : w.cell? ⟨bx, 0, none⟩ = some (.string x)) (h1 : n.size ≤ 1000000) (h2 : x.size ≤ 9223372036854775807) :
    Calls Tryd.prog 24 #[.string n, .pointer (some ⟨bx, 0, none⟩)] w fun e w' => e = .returned (.bool (preB n x)) ∧ w' = w := by
  have HP := hid (hasprefix_any n x w (by omega) h2)
  go_enter Tryd.func24, Tryd.ntmps24
  go_wp2_with (go_at_call 25; refine HP.out.mono ?_; rintro e w' ⟨rfl, hw⟩; obtain rfl : w = w' := hw.symm)
  go_ret
  exact ⟨rfl, rfl⟩
theorem names_small : (names.all fun x => decide (x.1.size ≤ 6)) = true := by kernel_rfl
theorem any_first (q : ByteArray → Bool) {i : Int} (h : FirstI (fun j => q (nameAt j).1) 26 i) : (names.any fun x => q x.1) = decide (0 ≤ i) := by
  have hl := names_len
  rcases h with ⟨rfl, h⟩ | ⟨k, hk, rfl, h1, h2⟩
  · rw [decide_eq_false (by decide), Bool.eq_false_iff]
    intro hc
    obtain ⟨x, hx, hq⟩ := List.any_eq_true.1 hc
    obtain ⟨j, hj, rfl⟩ := List.mem_iff_getElem.1 hx
    have : q (nameAt j).1 = false := h j (by omega)
    rw [nameAt_is hj] at this
    rw [this] at hq
    cases hq
  · rw [decide_eq_true (by omega)]
    refine List.any_eq_true.2 ⟨nameAt k, ?_, h1⟩
    rw [nameAt_is (by omega)]
    exact List.getElem_mem _
theorem contains_any (b c bx : Nat) (x : ByteArray) (w : World) (hbl : b < w.heap.size) (hc : ∀ j, j < 26 → w.cell? ⟨b, j, none⟩ = some (.string (nameAt j).1)) (hx : w.cell? ⟨bx, 0, none⟩ = some (.string x)) (h2 : x.size ≤ 9223372036854775807) :
    Calls Tryd.prog 23 #[.slice (some ⟨b, 0, none⟩) 26 c, .func (.func 24) #[] #[.pointer (some ⟨bx, 0, none⟩)]] w fun e w' => e = .returned (.bool (names.any fun y => preB y.1 x)) ∧ w' = w := by
  have hi := indexstr_any 24 #[.pointer (some ⟨bx, 0, none⟩)] b 26 c (fun j => (nameAt j).1) (fun j => preB (nameAt j).1 x) w (fun _ _ => by kernel_rfl) (by omega) hbl hc (fun W j hW hj => by
    have hbx := World.block_lt_of_cell? _ _ hx
    refine openclo_any bx x _ W ((hW.cell (p := ⟨bx, 0, none⟩) hbx).trans hx) ?_ h2
    rw [nameAt_is (by rw [names_len]; exact hj)]
    have := of_decide_eq_true (List.all_eq_true.1 names_small _ (List.getElem_mem (show j < names.length by rw [names_len]; exact hj)))
    omega)
  have HI := hid hi
  clear hi hc hx
  go_enter Tryd.func23, Tryd.ntmps23
  go_wp2_with fail
  refine HI.out.mono ?_
  rintro e w' ⟨i, rfl, hf, hw⟩
  obtain rfl : w = w' := hw.symm
  have HA := hid (any_first (fun y => preB y x) hf)
  clear hf
  go_wp2_with fail
  go_ret
  exact ⟨ret_bool HA.out.symm, rfl⟩
end Go.Proofs.YtddbbgjpfdcjfaaDoor
