/- Chapter 03, 04: (*Trie).Get, prop.Trie: the walks. -/
import Derived.Test.YtbkjanlkklmleaaTrG
import Derived.Test.YtbkjanlkklmleaaPsB
namespace Go.Proofs.Ytbkjanlkklmleaa
open Go.RowKit
open Go.Lib (hid)
set_option linter.unusedVariables false
set_option linter.unusedSimpArgs false
set_option maxRecDepth 100000

def getV (o : Int) (G : Int → Int) (r : Int) : Int := if 0 ≤ r ∧ r ≤ 1114111 then G r else o
set_option maxHeartbeats 4000000 in
theorem trget_any (gt : Nat) (o : Int) (G : Int → Int) (w : World) (h : TrW w gt o G) (r : Int) (hr32 : -2147483648 ≤ r ∧ r ≤ 2147483647) (hG : ∀ r, 0 ≤ r → r ≤ 1114111 → 0 ≤ G r ∧ G r ≤ 255) :
    Calls Try.prog 15 #[.pointer (some ⟨gt, 0, none⟩), .int .i32 r] w fun e w' => e = .returned (.int .i64 (getV o G r)) ∧ Below w.heap.size w w' := by
  obtain ⟨⟨hg1, hg2⟩, bA, m, c, hbA, c43, hm, hq⟩ := h
  by_cases h0 : r < 0
  · have HV := hid (show getV o G r = o from if_neg (by omega))
    clear hq
    go_enter Try.func15, Try.ntmps15
    go_wp2_with fail
    go_ret
    rw [HV.out]
    exact ⟨rfl, Below.refl _ _⟩
  by_cases h1 : 1114111 < r
  · have HV := hid (show getV o G r = o from if_neg (by omega))
    clear hq
    go_enter Try.func15, Try.ntmps15
    go_wp2_with fail
    go_ret
    rw [HV.out]
    exact ⟨rfl, Below.refl _ _⟩
  have HV := hid (show getV o G r = G r from if_pos (by omega))
  obtain ⟨q, hqv⟩ : ∃ q : Nat, r / 256 = (q : Int) := ⟨(r / 256).toNat, by omega⟩
  obtain ⟨k, hkv⟩ : ∃ k : Nat, r % 256 = (k : Int) := ⟨(r % 256).toNat, by omega⟩
  have hq4 : q < 4352 := by omega
  have hk2 : k < 256 := by omega
  have hrr : r = (q : Int) * 256 + k := by omega
  obtain ⟨j, hjm, c1, hck⟩ := hq q hq4
  have ck := hck k hk2
  rw [← hrr] at ck
  obtain ⟨g0, g1⟩ := hG r (by omega) (by omega)
  obtain ⟨v, hv⟩ : ∃ v, v = G r := ⟨_, rfl⟩
  have HVV := hid hv
  rw [← hv] at ck g0 g1
  have c43d : w.drew.cell? ⟨gt, 4353, none⟩ = _ := c43
  have c1d : w.drew.cell? ⟨gt, 1 + q, none⟩ = _ := c1
  have ckd : w.drew.cell? ⟨bA, j * 256 + k, none⟩ = _ := ck
  have hq4' : (q : Int) < 4352 := by omega
  have hk2' : (k : Int) < 256 := by omega
  have hjm' : (j : Int) < (m : Int) := by omega
  have h0' : 0 ≤ r := by omega
  have h1' : r ≤ 1114111 := by omega
  have htd : r.tdiv 256 = (q : Int) := by rw [Int.tdiv_eq_ediv_of_nonneg h0']; exact hqv
  have htm : r.tmod 256 = (k : Int) := by rw [Int.tmod_eq_emod_of_nonneg h0']; exact hkv
  clear hq hck hv hrr hqv hkv
  go_enter Try.func15, Try.ntmps15
  go_upto_region 5 with fail
  go_quiet (fail)
  go_wp2_with fail
  go_ret
  rw [HV.out, ← HVV.out]
  exact ⟨rfl, rfl, rfl, rfl, Nat.le_refl _, fun _ _ => rfl⟩
def enV (vs : List Value) (j : Nat) : Value := .agg #[vs.getD j undef, .int .i64 ((j : Int) + 1)]
def enL (vs : List Value) : List Value := ((List.range vs.length).map (enV vs)).flatMap fun v => v.cells.toList
theorem enL_snoc (vs : List Value) (v : Value) : enL (vs ++ [v]) = enL vs ++ [v, .int .i64 ((vs.length : Int) + 1)] := by
  unfold enL
  rw [List.length_append, List.length_singleton, List.range_succ, List.map_append, List.flatMap_append]
  congr 1
  · congr 1
    refine List.map_congr_left fun j hj => ?_
    have hj := List.mem_range.1 hj
    unfold enV
    rw [List.getD_eq_getElem?_getD, List.getD_eq_getElem?_getD, List.getElem?_append_left hj]
  · simp [enV, Value.cells, List.getD_eq_getElem?_getD]
theorem enL_get {vs : List Value} {i : Nat} (hi : i < vs.length) : (enL vs)[i * 2]? = some vs[i] ∧ (enL vs)[i * 2 + 1]? = some (.int .i64 ((i : Int) + 1)) := by
  have hs : ∀ v ∈ (List.range vs.length).map (enV vs), v.cells.size = 2 := fun v hv => by
    obtain ⟨j, _, rfl⟩ := List.mem_map.1 hv
    rfl
  have hg : ((List.range vs.length).map (enV vs))[i]? = some (enV vs i) := by
    rw [List.getElem?_map, List.getElem?_range hi]
    rfl
  have hd : vs.getD i undef = vs[i] := by rw [List.getD_eq_getElem?_getD, List.getElem?_eq_getElem hi]; rfl
  unfold enL
  constructor
  · rw [Great.flat_get (s := 2) (by decide) _ hs, show i * 2 / 2 = i by omega, show i * 2 % 2 = 0 by omega, hg]
    show some (vs.getD i undef) = _
    rw [hd]
  · rw [Great.flat_get (s := 2) (by decide) _ hs, show (i * 2 + 1) / 2 = i by omega, show (i * 2 + 1) % 2 = 1 by omega, hg]
    rfl
theorem TL.ent {W : World} {B : Nat} {v : Value} {vs : List Value} (h : TL W B v vs) (h35 : vs.length = 35) {e : TypeId} {A : Option Addr} {c : Nat} (ho : W.ownsRow B e 2 (.slice A 35 c) 35 (enL vs)) : ∃ g, A = some ⟨g, 0, none⟩ ∧ EntR W g 35 propE := by
  obtain ⟨a, c', hv, h1, h2, hc⟩ := owns_form ho
  injection hv with hA _ hcc
  subst hA hcc
  obtain ⟨g, rfl, _, hg, hcell⟩ := hc (by decide)
  refine ⟨g, rfl, hg, fun i hi => ?_⟩
  have hiv : i < vs.length := by omega
  obtain ⟨A, m, c2, e, hoj⟩ := h.own i hiv
  have hr := RR.of_own hoj
  have hm := hr.1
  have hml := told_len (i + 1) (by omega)
  obtain ⟨g1, g2⟩ := enL_get hiv
  refine ⟨A, m, c2, ?_, hr, by omega, ?_⟩
  · rw [hcell (i * 2) (by omega), g1, e]
  · rw [hcell (i * 2 + 1) (by omega), g2]
    rfl
theorem info_ent : (Try.prog.info? 61).map (fun i => (i.zero, i.size, i.bytes)) = some (some (.agg #[.slice none 0 0, .int .i64 0]), 2, 32) := by kernel_rfl
theorem prop_entok : EntOk 35 propE := fun i hi => ⟨told_right (i + 1) (by omega), by show 0 ≤ ((i : Int) + 1); omega, by show ((i : Int) + 1) ≤ 255; omega⟩
set_option maxHeartbeats 4000000 in
theorem proptrie_any (w : World) : Calls Try.prog 14 #[] w fun e w' => ∃ gt, e = .returned (.pointer (some ⟨gt, 0, none⟩)) ∧ TrW w' gt 0 (specN propE 0 35) ∧ Below w.heap.size w w' := by
  obtain ⟨i0, hi, hz0, hz1, hz2⟩ := info_parts info_ent
  have HTO := hid (fun c hc W => told_any c hc W)
  go_enter Try.func14, Try.ntmps14
  go_wp2_with fail
  go_loopg [1, 2] 35 (fun kx s3 s4 wr => ∃ (n c : Nat) (A : Option Addr) (x : Int) (vs : List Value), s3 = .slice A n c ∧ s4 = .int .i64 x ∧ x = (n : Int) + 1 ∧ n ≤ 35 ∧ 35 - n ≤ kx ∧ Hid (n = vs.length) ∧ Hid (wr.ownsRow w.heap.size 61 2 (.slice A n c) n (enL vs)) ∧ Hid (TL wr w.heap.size (.slice A n c) vs) ∧ Hid (Below w.heap.size w wr))
  case atStart => exact ⟨0, 0, none, 1, [], rfl, rfl, by decide, by decide, Nat.le_refl _, rfl, World.ownsRow_nil _ _ _ _, TL.nil _ _ _, Below.refl _ _⟩
  case round =>
    obtain ⟨n, c, A, x, vs, rfl, rfl, hx, hn, hg, HN, HROW, HT, HB⟩ := hrel
    have hszr := HB.out.size
    by_cases hlt : n < 35
    · have hx36 : x < 36 := by omega
      have hxn : x = ((n + 1 : Nat) : Int) := by omega
      have HX := hid hxn
      obtain ⟨n1, hn1⟩ : ∃ n1, n1 = n + 1 := ⟨_, rfl⟩
      have HN1 := hid hn1
      have hn36 : n1 < 36 := by omega
      have hxx : x = (n1 : Int) := by rw [hn1]; exact hxn
      clear hn1 hxn hx
      subst hxx
      have HTC := hid (HTO.out n1 hn36 wr)
      go_wp2_with fail
      refine HTC.out.mono ?_
      rintro e w2 ⟨A2, m2, c2, rfl, ho2, hb2⟩
      have hg2 := grown_of_below hb2 (Value.slice A n c).ownBlock
      have HROW2 := hid (HROW.out.kept (grown_of_below hb2 none) (by cases h : (Value.slice A n c).ownBlock <;> simp))
      have hT2 := HT.out.kept (v' := .slice A n c) hg2 (fun k hk => .inl hk)
      have HT2 := hid (hT2.snoc (owns_base (by rw [← HN.out, ← HN1.out]; exact ho2) hszr) (fun k hk e => by
        have h1 := (ho2.lt k hk).1
        have h2 := own_lt HROW.out e
        omega))
      have HB2 := hid (HB.out.trans (hb2.mono hszr))
      have hs2 := HB2.out.size
      clear hg2 hT2 ho2 hb2
      go_wp2_with (at_builtin; refine wpList_append_any _ rfl (.tmp 9) (.tmp 14) 59 rfl w.heap.size 61 i0 (.agg #[.slice none 0 0, .int .i64 0]) 2 32 Try.underlying59 hi hz0 hz1 hz2 rfl (by decide) _ n (enL vs) rfl (HROW2.out.alloc _) _ _ 1 1 [.slice A2 m2 c2, .int .i64 n1] rfl (reads_blk2 (Blk.new w2 _ _)) (by simp [Value.oneCell']) (by unfold maxLen; omega) (by omega) (by simp; omega) ?_; intro v1 w7 ho7 hg7 hv7; have HB7 := hid ((HB2.out.alloc hs2 _).grown hg7 (by simp; omega) (own_ge HROW2.out)); obtain ⟨A7, c7, rfl⟩ := owns_slice ho7; have HO7 := hid ho7; have HG7 := hid hg7; have HV7 := hid hv7; clear ho7 hg7 hv7)
      have hta := HT2.out.kept (W' := w2.alloc (.cells #[.slice A2 m2 c2, .int .i64 n1] 61)) (v' := .slice A n c) (World.grownBy_alloc w2 _ _) (fun k hk => .inl hk)
      have HT7 := hid (hta.kept (v' := .slice A7 (n + 1) c7) HG7.out (fun k hk => by
        rcases HV7.out with h | h
        · exact .inl (h.symm.trans hk)
        · rw [h] at hk
          injection hk with hk
          exact .inr (by omega)))
      have hen : enL (vs ++ [Value.slice A2 m2 c2]) = enL vs ++ [Value.slice A2 m2 c2, .int .i64 n1] := by rw [enL_snoc, ← HN.out, HN1.out]; rfl
      have HEN := hid hen
      clear hen
      have e5 : ((n1 : Int) + 1) = ((n + 1 : Nat) : Int) + 1 := by have := HN1.out; omega
      go_roundg (35 - (n + 1))
      case measure => omega
      case rel => exact ⟨n + 1, c7, A7, _, vs ++ [Value.slice A2 m2 c2], rfl, by go_num, e5, by omega, Nat.le_refl _, (by show n + 1 = _; rw [List.length_append, ← HN.out]; rfl), (by show World.ownsRow _ _ _ _ _ _ _; rw [HEN.out]; exact HO7.out), HT7.out, HB7.out⟩
    · obtain rfl : n = 35 := by omega
      have hx36 : x = 36 := by omega
      subst hx36
      obtain ⟨g, rfl, hen⟩ := HT.out.ent HN.out.symm HROW.out
      have HNW := hid (trnew_any g 35 c propE 0 wr hen (by decide) prop_entok ⟨by decide, by decide⟩)
      clear hx hen
      go_wp2_with fail
      refine HNW.out.mono ?_
      rintro e w3 ⟨gt, rfl, ht, hb3⟩
      have HT3 := hid ht
      have HB3 := hid (HB.out.trans (hb3.mono hszr))
      clear ht hb3
      go_wp2_with fail
      go_ret
      exact ⟨gt, rfl, HT3.out, HB3.out⟩
end Go.Proofs.Ytbkjanlkklmleaa
