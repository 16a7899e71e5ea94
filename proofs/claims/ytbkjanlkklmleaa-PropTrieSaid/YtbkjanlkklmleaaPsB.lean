/- Chapter 04: all numbers of a class: walks. -/
import Derived.Test.YtbkjanlkklmleaaPsA
import Derived.Test.YtbkjanlkklmleaaRgY
namespace Go.Proofs.Ytbkjanlkklmleaa
open Go.RowKit
open Go.Lib (hid)
set_option linter.unusedVariables false
set_option maxRecDepth 100000

/-- The sets of the first classes, each in memory of its own, none where v lies. -/
structure TL (W : World) (B : Nat) (v : Value) (vs : List Value) : Prop where
  own : ∀ j (h : j < vs.length), ∃ A m c, vs[j] = .slice A m c ∧ W.ownsRow B 48 2 (.slice A m c) m ((toldL (j + 1)).flatMap rgCells)
  off : ∀ j (h : j < vs.length) k, (vs[j]).ownBlock = some k → v.ownBlock ≠ some k
theorem TL.nil (W : World) (B : Nat) (v : Value) : TL W B v [] := ⟨fun j h => absurd h (Nat.not_lt_zero _), fun j h => absurd h (Nat.not_lt_zero _)⟩
theorem TL.lt {W : World} {B : Nat} {v : Value} {vs : List Value} (h : TL W B v vs) (j : Nat) (hj : j < vs.length) (k : Nat) (hk : (vs[j]).ownBlock = some k) : k < W.heap.size := by
  obtain ⟨A, m, c, e, ho⟩ := h.own j hj
  rw [e] at hk
  exact own_lt ho hk
theorem TL.kept {W W' : World} {B : Nat} {v v' : Value} {vs : List Value} (h : TL W B v vs) (hg : W.grownBy W' v.ownBlock) (hv : ∀ k, v'.ownBlock = some k → v.ownBlock = some k ∨ W.heap.size ≤ k) : TL W' B v' vs := by
  refine ⟨fun j hj => ?_, fun j hj k hk e => ?_⟩
  · obtain ⟨A, m, c, e, ho⟩ := h.own j hj
    exact ⟨A, m, c, e, own_kept ho hg fun k hk => fun e2 => h.off j hj k (by rw [e]; exact hk) e2⟩
  · rcases hv k e with q | q
    · exact h.off j hj k hk q
    · have := h.lt j hj k hk; omega
theorem TL.snoc {W : World} {B : Nat} {v : Value} {vs : List Value} (h : TL W B v vs) {A : Option Addr} {m c : Nat} (ho : W.ownsRow B 48 2 (.slice A m c) m ((toldL (vs.length + 1)).flatMap rgCells)) (hn : ∀ k, (Value.slice A m c).ownBlock = some k → v.ownBlock ≠ some k) : TL W B v (vs ++ [.slice A m c]) := by
  refine ⟨fun j hj => ?_, fun j hj k hk => ?_⟩
  · rw [List.length_append, List.length_singleton] at hj
    by_cases e : j < vs.length
    · rw [List.getElem_append_left e]; exact h.own j e
    · obtain rfl : j = vs.length := by omega
      rw [List.getElem_append_right (Nat.le_refl _)]
      simp only [Nat.sub_self, List.getElem_cons_zero]
      exact ⟨A, m, c, rfl, ho⟩
  · rw [List.length_append, List.length_singleton] at hj
    by_cases e : j < vs.length
    · rw [List.getElem_append_left e] at hk; exact h.off j e k hk
    · obtain rfl : j = vs.length := by omega
      rw [List.getElem_append_right (Nat.le_refl _)] at hk
      simp only [Nat.sub_self, List.getElem_cons_zero] at hk
      exact hn k hk
def allT : List (List Rg) := (List.range 35).map fun i => toldL (i + 1)
theorem allT_len : allT.length = 35 := by simp [allT]
theorem map_get {α : Type} (f : Nat → α) (n j : Nat) (h : j < ((List.range n).map f).length) : ((List.range n).map f)[j] = f j := by simp
theorem allT_get (j : Nat) (h : j < allT.length) : allT[j] = toldL (j + 1) := map_get _ 35 j h
theorem allT_sum : (allT.map List.length).sum ≤ 900000 := of_decide_eq_true (by decide +kernel)
theorem TL.rrs {W : World} {B : Nat} {v : Value} {vs : List Value} (h : TL W B v vs) (h35 : vs.length = 35) {e : TypeId} {A : Option Addr} {c : Nat} (ho : W.ownsRow B e 1 (.slice A 35 c) 35 vs) : RRs W A 35 c allT := by
  obtain ⟨a, c', hv, h1, h2, hc⟩ := owns_form ho
  injection hv with hA _ hcc
  subst hA hcc
  refine ⟨allT_len.symm, h1, by unfold maxLen at h2; omega, fun _ => ?_⟩
  obtain ⟨g, rfl, _, hg, hcell⟩ := hc (by decide)
  refine ⟨g, 0, rfl, hg, fun j hj => ?_⟩
  rw [allT_len] at hj
  have hjv : j < vs.length := by omega
  obtain ⟨A, m, c2, e, hoj⟩ := h.own j hjv
  have hr := RR.of_own hoj
  have hm := hr.1
  have hml := told_len (j + 1) (by omega)
  rw [allT_get]
  refine ⟨A, m, c2, ?_, hr, in32_right (told_right (j + 1) (by omega)), by omega⟩
  rw [Nat.zero_add, hcell j (by omega), List.getElem?_eq_getElem hjv, e]
theorem rightF_len : ∀ (l : List Rg) (b : Int), rightF b l → b ≤ 1114112 → 2 * (l.length : Int) ≤ 1114113 - b
  | [], b, _, hb => by simp; omega
  | x :: l, b, ⟨h1, h2, h3, h4⟩, hb => by
    have := rightF_len l (x.2 + 1) h4 (by omega)
    rw [List.length_cons]
    omega
theorem right_len {l : List Rg} (h : rightR l) : l.length ≤ 600000 := by
  have := rightF_len l (-1) h (by decide)
  omega
theorem info_set : (Try.prog.info? 23).map (fun i => (i.zero, i.size, i.bytes)) = some (some (.slice none 0 0), 1, 24) := by kernel_rfl
/-- What is not in any class but Other. -/
theorem other_is {u : List Rg} (hu : rightR u) (hm : ∀ r, memR u r ↔ ∃ l ∈ allT, memR (knownL l) r) : notR u = setL 0 := by
  obtain ⟨n1, n2⟩ := notR_law hu
  refine right_unique n1 (set_right 0 (by decide)) fun r => (n2 r).trans ?_
  rw [setL_zero, other_law.2, mem_allL, hm]
  have : (∃ l ∈ allT, memR (knownL l) r) ↔ ∃ c : Nat, 1 ≤ c ∧ c < 36 ∧ memR (toldL c) r := by
    constructor
    · rintro ⟨l, hl, h⟩
      obtain ⟨i, hi, rfl⟩ := List.mem_map.1 hl
      have hi := List.mem_range.1 hi
      rw [knownL_of (told_right (i + 1) (by omega))] at h
      exact ⟨i + 1, by omega, by omega, h⟩
    · rintro ⟨c, h1, h2, h⟩
      refine ⟨toldL c, List.mem_map.2 ⟨c - 1, List.mem_range.2 (by omega), by rw [show c - 1 + 1 = c by omega]⟩, ?_⟩
      rw [knownL_of (told_right c h2)]
      exact h
  rw [this]
def setI (c : Int) : List Rg := if 0 ≤ c ∧ c < 36 then setL c.toNat else []
set_option maxHeartbeats 4000000 in
theorem set_any (c : Int) (h0 : -9223372036854775808 ≤ c) (h1 : c ≤ 9223372036854775807) (w : World) : Calls Try.prog 6 #[.int .i64 c] w fun e w' => RetR w e w' (setI c) := by
  by_cases hc0 : c < 0
  · have HS := hid (show setI c = [] from if_neg (by omega))
    have hb0 : ¬ 0 ≤ c := by omega
    go_enter Try.func6, Try.ntmps6
    go_wp2_with fail
    go_ret
    exact ⟨_, _, _, rfl, by rw [HS.out]; exact RR.nil _, Below.refl _ _⟩
  · by_cases hc36 : 36 ≤ c
    · have HS := hid (show setI c = [] from if_neg (by omega))
      have hb0 : 0 ≤ c := by omega
      go_enter Try.func6, Try.ntmps6
      go_wp2_with fail
      go_ret
      exact ⟨_, _, _, rfl, by rw [HS.out]; exact RR.nil _, Below.refl _ _⟩
    · have hS : setI c = setL c.toNat := if_pos (by omega)
      by_cases hcz : c = 0
      · subst hcz
        have HS := hid (show setI 0 = setL 0 from hS)
        obtain ⟨i0, hi, hz0, hz1, hz2⟩ := info_parts info_set
        have HTO := hid (fun c hc W => told_any c hc W)
        have HTL := hid (fun c hc => told_len c hc)
        clear hS
        go_enter Try.func6, Try.ntmps6
        go_wp2_with fail
        go_loopg [3, 4] 35 (fun kx s3 s4 wr => ∃ (n c : Nat) (A : Option Addr) (x : Int) (vs : List Value), s3 = .slice A n c ∧ s4 = .int .i64 x ∧ x = (n : Int) + 1 ∧ n ≤ 35 ∧ 35 - n ≤ kx ∧ Hid (n = vs.length) ∧ Hid (wr.ownsRow w.heap.size 23 1 (.slice A n c) n vs) ∧ Hid (TL wr w.heap.size (.slice A n c) vs) ∧ Hid (Below w.heap.size w wr))
        case atStart => exact ⟨0, 0, none, 1, [], rfl, rfl, by decide, by decide, Nat.le_refl _, rfl, World.ownsRow_nil _ _ _ _, TL.nil _ _ _, Below.refl _ _⟩
        case round =>
          obtain ⟨n, c, A, x, vs, rfl, rfl, hx, hn, hg, HN, HROW, HT, HB⟩ := hrel
          have hszr := HB.out.size
          by_cases hlt : n < 35
          · have hx36 : x < 36 := by omega
            have hxn : x = ((n + 1 : Nat) : Int) := by omega
            have HX := hid hxn
            obtain ⟨n1, hn1⟩ : ∃ n1, n1 = n + 1 := ⟨_, rfl⟩
            have HN1 := hid hn1
            have hn36 : n1 < 36 := by omega
            have hxx : x = (n1 : Int) := by rw [hn1]; exact hxn
            clear hn1 hxn hx
            subst hxx
            have HTC := hid (HTO.out n1 hn36 wr)
            go_wp2_with fail
            refine HTC.out.mono ?_
            rintro e w2 ⟨A2, m2, c2, rfl, ho2, hb2⟩
            have hg2 := grown_of_below hb2 (Value.slice A n c).ownBlock
            have HROW2 := hid (HROW.out.kept (grown_of_below hb2 none) (by cases h : (Value.slice A n c).ownBlock <;> simp))
            have hT2 := HT.out.kept (v' := .slice A n c) hg2 (fun k hk => .inl hk)
            have HT2 := hid (hT2.snoc (owns_base (by rw [← HN.out, ← HN1.out]; exact ho2) hszr) (fun k hk e => by
              have h1 := (ho2.lt k hk).1
              have h2 := own_lt HROW.out e
              omega))
            have HB2 := hid (HB.out.trans (hb2.mono hszr))
            have hs2 := HB2.out.size
            clear hg2 hT2 ho2 hb2
            go_wp2_with (at_builtin; refine wpList_append_any _ rfl (.tmp 21) (.tmp 24) 41 rfl w.heap.size 23 i0 (.slice none 0 0) 1 24 Try.underlying41 hi hz0 hz1 hz2 rfl (by decide) _ n vs rfl (HROW2.out.alloc _) _ _ 1 1 [.slice A2 m2 c2] rfl (reads_i1 (Blk.new w2 _ _)) (by simp [Value.oneCell']) (by unfold maxLen; omega) (by omega) (by simp; omega) ?_; intro v1 w7 ho7 hg7 hv7; have HB7 := hid ((HB2.out.alloc hs2 _).grown hg7 (by simp; omega) (own_ge HROW2.out)); obtain ⟨A7, c7, rfl⟩ := owns_slice ho7; have HO7 := hid ho7; have HG7 := hid hg7; have HV7 := hid hv7; clear ho7 hg7 hv7)
            have hta := HT2.out.kept (W' := w2.alloc (.cells #[.slice A2 m2 c2] 23)) (v' := .slice A n c) (World.grownBy_alloc w2 _ _) (fun k hk => .inl hk)
            have HT7 := hid (hta.kept (v' := .slice A7 (n + 1) c7) HG7.out (fun k hk => by
              rcases HV7.out with h | h
              · exact .inl (h.symm.trans hk)
              · rw [h] at hk
                injection hk with hk
                exact .inr (by omega)))
            have e5 : ((n1 : Int) + 1) = ((n + 1 : Nat) : Int) + 1 := by have := HN1.out; omega
            go_roundg (35 - (n + 1))
            case measure => omega
            case rel => exact ⟨n + 1, c7, A7, _, vs ++ [Value.slice A2 m2 c2], rfl, by go_num, e5, by omega, Nat.le_refl _, (by show n + 1 = _; rw [List.length_append, ← HN.out]; rfl), HO7.out, HT7.out, HB7.out⟩
          · obtain rfl : n = 35 := by omega
            have hx36 : x = 36 := by omega
            subst hx36
            have HRRS := hid (HT.out.rrs HN.out.symm HROW.out)
            clear hx
            go_wp2_with fail
            refine (union_any A 35 c allT wr HRRS.out allT_sum (by decide)).mono ?_
            rintro e w2 ⟨u, hu, hm, A2, m2, c2, rfl, hr2, hb2⟩
            have HR2 := hid hr2
            have HB2 := hid (HB.out.trans (hb2.mono hszr))
            have HOI := hid (other_is hu hm)
            have HKU := hid (knownL_of hu)
            have HI := hid (in32_right hu)
            have hul : m2 ≤ 1000000 := by
              have h1 := hr2.1
              have h2 := right_len hu
              omega
            clear hr2 hb2 hm hu
            go_wp2_with fail
            refine (not_any A2 m2 c2 u w2 HR2.out hul HI.out).mono ?_
            rintro e w3 ⟨A3, m3, c3, rfl, hr3, hb3⟩
            rw [HKU.out, HOI.out] at hr3
            have HR3 := hid hr3
            have HB3 := hid (HB2.out.trans (hb3.mono HB2.out.size))
            clear hr3 hb3
            go_wp2_with fail
            go_ret
            exact ⟨_, _, _, rfl, by rw [HS.out]; exact HR3.out, HB3.out⟩
      · obtain ⟨n, rfl⟩ : ∃ n : Nat, c = (n : Int) := ⟨c.toNat, by omega⟩
        have hn36 : n < 36 := by omega
        have hn0 : n ≠ 0 := by omega
        have HS := hid (show setI n = toldL n by rw [hS, Int.toNat_natCast]; unfold setL; rw [if_neg hn0])
        have HTC := hid (told_any n hn36 w)
        have hb0 : ¬ (n : Int) < 0 := hc0
        have hb1 : ((n : Int) == 0) = false := by simpa using hcz
        clear hS hn0
        go_enter Try.func6, Try.ntmps6
        go_wp2_with fail
        refine HTC.out.mono ?_
        rintro e w2 ⟨A2, m2, c2, rfl, ho2, hb2⟩
        have HR2 := hid (RR.of_own ho2)
        have HB2 := hid hb2
        clear ho2 hb2
        go_wp2_with fail
        go_ret
        exact ⟨_, _, _, rfl, by rw [HS.out]; exact HR2.out, HB2.out⟩
end Go.Proofs.Ytbkjanlkklmleaa
