/- Chapter 16: the scalar of a number's digits: walks. -/
import Derived.Test.YtddbbgjpfdcjfaaDoorEnPut
namespace Go.Proofs.YtddbbgjpfdcjfaaDoor
open Go.RowKit
open Go.Shelf
open Go.Lib (hid)
set_option linter.unusedVariables false

theorem fold_bound (base : Nat) (hb : base = 10 ∨ base = 16) : ∀ (l : List Int) (a : Int) (k : Nat), (∀ c ∈ l, pOf base c = true) → 0 ≤ a → a < 16 ^ k → 0 ≤ l.foldl (fun n c => (base : Int) * n + digV c) a ∧ l.foldl (fun n c => (base : Int) * n + digV c) a < 16 ^ (k + l.length)
  | [], a, k, _, h0, h1 => ⟨h0, h1⟩
  | c :: l, a, k, h, h0, h1 => by
    obtain ⟨_, d1, d2⟩ := pOf_yes hb (h c (List.mem_cons_self ..))
    have hp : (16 : Int) ^ (k + 1) = 16 ^ k * 16 := Int.pow_succ 16 k
    have := fold_bound base hb l ((base : Int) * a + digV c) (k + 1) (fun x hx => h x (List.mem_cons_of_mem _ hx)) (by rcases hb with rfl | rfl <;> omega) (by rw [hp]; rcases hb with rfl | rfl <;> omega)
    rw [List.foldl_cons, List.length_cons, show k + (l.length + 1) = k + 1 + l.length by omega]
    exact this
theorem numL_bound (base : Nat) (hb : base = 10 ∨ base = 16) (l : List Int) (h : ∀ c ∈ l, pOf base c = true) : 0 ≤ numL base l ∧ numL base l < 16 ^ l.length := by
  have := fold_bound base hb l 0 0 h (Int.le_refl _) (by decide)
  rw [Nat.zero_add] at this
  exact this
theorem num_small (base : Nat) (hb : base = 10 ∨ base = 16) (s : ByteArray) (h7 : s.size ≤ 7) (hall : ∀ i, i < s.size → pOf base (byt s i) = true) : 0 ≤ numL base (intsOf s) ∧ numL base (intsOf s) < 268435456 := by
  have := numL_bound base hb (intsOf s) (List.all_eq_true.1 ((allP_iff _ _).2 hall))
  rw [intsOf_len] at this
  have := pow_small s.size h7
  omega
set_option maxRecDepth 100000 in
set_option maxHeartbeats 4000000 in
theorem parseInt_any (base : Nat) (hb : base = 10 ∨ base = 16) (s : ByteArray) (h0 : 0 < s.size) (h7 : s.size ≤ 7) (hall : ∀ i, i < s.size → pOf base (byt s i) = true) (w : World) :
    Calls Tryd.prog 42 #[.string s, .int .i64 base, .int .i64 32] w fun e w' => e = .returned (.tuple #[.int .i64 (numL base (intsOf s)), .nilIface]) ∧ Below w.heap.size w w' := by
  have hne : ¬ s = ByteArray.empty := fun e => by rw [e] at h0; exact absurd h0 (by decide)
  have hne2 : ¬ s.toList = [] := fun e => hne (str_toList_inj.1 (by rw [e, Lib.toList_data]; rfl))
  have hne3 : s.toList.isEmpty = false := by simpa using hne2
  have hne4 : (s.toList == []) = false := by simpa using hne2
  obtain ⟨hv0, hv1⟩ := num_small base hb s h7 hall
  have hpu := fun W => parseUint_any base hb s h0 h7 hall W
  have hg0 := getC s 0 h0
  have hc := dig_cases hb (hall 0 h0)
  have hc0 : (byt s 0 == 43) = false ∧ (byt s 0 == 45) = false := by
    rw [beq_eq_false_iff_ne, beq_eq_false_iff_ne]
    rcases hc with ⟨a1, a2, _⟩ | ⟨a1, _⟩ | ⟨a1, _⟩ <;> omega
  obtain ⟨hc1, hc2⟩ := hc0
  generalize numL base (intsOf s) = v at *
  generalize byt s 0 = c at *
  have HPU := hid hpu
  have hs0 : (0 : Int) < (s.size : Int) := by omega
  clear hpu hall hb hc h7
  go_enter Tryd.func42, Tryd.ntmps42
  go_wp2_with fail
  refine (HPU.out w).mono ?_
  rintro e w2 ⟨rfl, hb2⟩
  have HB2 := hid hb2
  clear hb2
  go_wp2_with fail
  go_ret2
  exact ⟨rfl, HB2.out⟩
theorem sparseInt_any (base : Nat) (hb : base = 10 ∨ base = 16) (s : ByteArray) (h0 : 0 < s.size) (h7 : s.size ≤ 7) (hall : ∀ i, i < s.size → pOf base (byt s i) = true) (w : World) :
    Calls Tryd.prog 36 #[.string s, .int .i64 base, .int .i64 32] w fun e w' => e = .returned (.tuple #[.int .i64 (numL base (intsOf s)), .nilIface]) ∧ Below w.heap.size w w' := by
  have HPI := hid (parseInt_any base hb s h0 h7 hall w)
  clear hall h0 h7 hb
  go_enter Tryd.func36, Tryd.ntmps36
  go_wp2_with fail
  refine HPI.out.mono ?_
  rintro e w2 ⟨rfl, hb2⟩
  go_wp2_with fail
  go_ret2
  exact ⟨rfl, hb2⟩

theorem putG_mem {r : Int} (h0 : 0 ≤ r) (h1 : r ≤ 1114111) : ∀ y ∈ putG r, 0 ≤ y ∧ y ≤ 255 := by
  unfold putG
  split
  · intro y hy
    rw [List.mem_singleton.1 hy]
    omega
  · split
    · intro y hy
      simp only [List.mem_cons, List.not_mem_nil, or_false] at hy
      rcases hy with rfl | rfl <;> omega
    · split
      · intro y hy
        simp only [List.mem_cons, List.not_mem_nil, or_false] at hy
        rcases hy with rfl | rfl | rfl <;> omega
      · intro y hy
        simp only [List.mem_cons, List.not_mem_nil, or_false] at hy
        rcases hy with rfl | rfl | rfl | rfl <;> omega
theorem putF_mem (r : Int) : ∀ y ∈ putF r, 0 ≤ y ∧ y ≤ 255 := by
  unfold putF
  cases hr : rightB r
  · rw [if_neg (by decide)]
    exact putG_mem (by decide) (by decide)
  · rw [if_pos rfl]
    have hb : 0 ≤ r ∧ r ≤ 1114111 := by simp [rightB] at hr; omega
    exact putG_mem hb.1 hb.2
theorem putF_len (r : Int) : (putF r).length ≤ 4 := by
  unfold putF putG
  generalize (if rightB r = true then r else 65533) = q
  split
  · simp
  · split
    · simp
    · split <;> simp
theorem rightB_iff (r : Int) : rightB r = true ↔ rightV r := by
  unfold rightB rightV
  simp only [Bool.and_eq_true, Bool.or_eq_true, decide_eq_true_iff]
  constructor
  · rintro ⟨⟨h1, h2⟩, h3⟩; exact ⟨h1, h2, h3⟩
  · rintro ⟨h1, h2, h3⟩; exact ⟨⟨h1, h2⟩, h3⟩
theorem put_broken (r : Int) : ofInts (putF r) = ofInts (putF 65533) ↔ ¬ rightV r ∨ r = 65533 := by
  have hB : putF 65533 = [239, 191, 189] := by decide
  constructor
  · intro h
    by_cases hr : rightV r
    · right
      have he : putF r = putG r := by unfold putF; rw [(rightB_iff r).2 hr]; rfl
      have hl : (putF r).length = 3 := by
        have := congrArg ByteArray.size h
        rw [ofInts_size, ofInts_size, hB] at this
        exact this
      have hget : ∀ i, i < 3 → (putF r).getD i 0 = [239, 191, 189].getD i 0 := fun i hi => by
        rw [← ofInts_byt _ (putF_mem r) i (by omega), h, ofInts_byt _ (putF_mem _) i (by rw [hB]; exact hi), hB]
      have g0 := hget 0 (by decide)
      have g1 := hget 1 (by decide)
      have g2 := hget 2 (by decide)
      obtain ⟨r0, r1, _⟩ := hr
      rw [he] at hl g0 g1 g2
      unfold putG at hl g0 g1 g2
      split at hl
      · simp at hl
      · rename_i n1
        split at hl
        · simp at hl
        · rename_i n2
          split at hl
          · rename_i n3
            rw [if_neg n1, if_neg n2, if_pos n3] at g0 g1 g2
            have g0' : 224 + r / 64 / 64 = 239 := g0
            have g1' : 128 + r / 64 % 64 = 191 := g1
            have g2' : 128 + r % 64 = 189 := g2
            omega
          · simp at hl
    · exact .inl hr
  · rintro (h | rfl)
    · have : putF r = putF 65533 := by
        unfold putF
        cases hr : rightB r
        · rfl
        · exact absurd ((rightB_iff r).1 hr) h
      rw [this]
    · rfl
theorem conv_new {B : Nat} {w : World} {v : Value} {zs : List Int} (h : NewBytes B w v zs) (hz : ∀ y ∈ zs, 0 ≤ y ∧ y ≤ 255) (W : World) (hb : Below w.heap.size w W) : (convert 22 9 v).run Tryd.prog W = .ok (.string (ofInts zs)) W := by
  obtain ⟨b, _, rfl, hh⟩ := h
  have hbl : b < w.heap.size := by
    rcases Nat.lt_or_ge b w.heap.size with h | h
    · exact h
    · rw [Array.getElem?_eq_none h] at hh; cases hh
  have hby : Lib.Bytes W b 0 (ofInts zs) := by
    apply bytes_of_byt
    intro i hi
    have hi' : i < zs.length := by rw [ofInts_size] at hi; exact hi
    rw [Nat.zero_add, hb.cell (p := ⟨b, i, none⟩) hbl, ofInts_byt zs hz i hi']
    simp [World.cell?, hh, List.getD_eq_getElem?_getD, hi']
  have := conv_head hby zs.length zs.length (by rw [ofInts_size]; exact Nat.le_refl _)
  rw [this]
  congr 2
  rw [← ofInts_size zs]
  exact ext_all _
set_option maxRecDepth 100000 in
set_option maxHeartbeats 4000000 in
theorem numbered_any (base : Nat) (hb : base = 10 ∨ base = 16) (s : ByteArray) (h0 : 0 < s.size) (h7 : s.size ≤ 7) (hall : ∀ i, i < s.size → pOf base (byt s i) = true) (w : World) :
    Calls Tryd.prog 21 #[.string s, .int .i64 base] w fun e w' => e = .returned (.int .i32 (scal (numV base s))) ∧ Below w.heap.size w w' := by
  have HPI := hid (sparseInt_any base hb s h0 h7 hall w)
  obtain ⟨hv0, hv1⟩ := num_small base hb s h7 hall
  have hn : numV base s = numL base (intsOf s) := rfl
  rw [hn]
  clear hall h0 h7 hb hn
  generalize numL base (intsOf s) = v at *
  have hpb := put_broken v
  go_enter Tryd.func21, Tryd.ntmps21
  go_wp2_with fail
  refine HPI.out.mono ?_
  rintro e w2 ⟨rfl, hb2⟩
  have HB2 := hid hb2
  clear hb2 HPI
  by_cases hz : v = 0
  · subst hz
    have HR := hid (show scal 0 = 65533 from rfl)
    clear hpb
    go_wp2_with fail
    go_quiet (fail)
    go_wp2_with fail
    go_ret
    exact ⟨ret_int HR.out.symm, HB2.out.trans (below_drewN _ _ _)⟩
  · have hzb : (v == 0) = false := by simpa using hz
    have hput := fun (r : Int) (W : World) => put_any r W
    have HPUT := hid hput
    have hM := putF_mem
    have HM := hid hM
    have hbd : Below w2.heap.size w2 w2.drew := ⟨rfl, rfl, rfl, Nat.le_refl _, fun _ _ => rfl⟩
    have HBD := hid hbd
    clear hput hM hbd
    obtain ⟨q, hq⟩ : ∃ q, q = decide (ofInts (putF v) = ofInts (putF 65533)) := ⟨_, rfl⟩
    have hteq : ((ofInts (putF v)).toList == (ofInts (putF 65533)).toList) = q := by rw [str_beq, hq]
    have hres : scal v = if q then 65533 else v := by
      unfold scal
      cases hqv : q
      · rw [hqv] at hq
        have := of_decide_eq_false hq.symm
        rw [hpb] at this
        rw [if_neg (fun h => h.elim hz fun h => this (.inl h)), if_neg (by decide)]
      · rw [hqv] at hq
        have := of_decide_eq_true hq.symm
        rw [hpb] at this
        rw [if_pos rfl]
        rcases this with h | h
        · rw [if_pos (.inr h)]
        · subst h
          split <;> rfl
    have HRES := hid hres
    generalize hz1 : ofInts (putF v) = z1 at *
    generalize hz2 : ofInts (putF 65533) = z2 at *
    have HZ1 := hid hz1
    have HZ2 := hid hz2
    clear hz1 hz2 hpb hq hres
    go_upto_region 3 with fail
    go_region_with (first
      | (go_at_call 31; refine (HPUT.out _ _).mono ?_; rintro e w6 ⟨v6, rfl, hn6, hb6⟩; have hb56 := HB5.out.trans (hb6.mono HB5.out.size); have hc6 := conv_new hn6 (HM.out _) w6 (Below.refl _ _); rw [HZ2.out] at hc6; have hc7 := conv_new HN5.out (HM.out _) w6 hb6; rw [HZ1.out] at hc7; have HB6 := hid hb56; clear hb6 hb56 hn6)
      | (go_at_call 31; refine (HPUT.out _ _).mono ?_; rintro e w5 ⟨v5, rfl, hn5, hb5⟩; have hb45 := HBD.out.trans hb5; have hc5 := conv_new hn5 (HM.out _) w5 (Below.refl _ _); rw [HZ1.out] at hc5; have HN5 := hid hn5; have HB5 := hid hb45; clear hb5 hb45 hn5))
    all_goals
      cases q
      · go_wp2_with fail
        go_ret
        exact ⟨by rw [HRES.out]; rfl, HB2.out.trans (HB6.out.mono HB2.out.size)⟩
      · go_wp2_with fail
        go_ret
        exact ⟨by rw [HRES.out]; rfl, HB2.out.trans (HB6.out.mono HB2.out.size)⟩
end Go.Proofs.YtddbbgjpfdcjfaaDoor
