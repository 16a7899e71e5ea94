/- (*strings.byteStringReplacer).Replace: the walk. -/
import Derived.Test.YtpnbkecchfhimaaGreatDoorRpE
import Derived.Test.YtpnbkecchfhimaaGreatDoorMEn1
import Derived.BigQuiet
import Derived.BigRegion
import Derived.Laws.CopyOwn
import Derived.Deep.RegionLaw
import Derived.Deep.OwnRows
import Derived.WalkSpells
namespace Go.Proofs.YtpnbkecchfhimaaGreatDoor
open Go.RowKit Go.Shelf
open Go.Lib (hid)
set_option linter.unusedVariables false
set_option linter.unusedSimpArgs false
set_option maxRecDepth 100000

theorem cnt_byte (s : ByteArray) (c : UInt8) : Lib.countByte s.data.toList c = cntL (c.toNat : Int) (intsOf s) := by
  unfold Lib.countByte cntL intsOf
  induction s.data.toList with
  | nil => rfl
  | cons x l ih =>
    rw [List.count_cons, List.map_cons, List.filter_cons, ih]
    by_cases e : x = c
    · subst e; simp
    · have h2 : ¬ ((x.toNat : Int) = (c.toNat : Int)) := fun h => e (UInt8.toNat.inj (by omega))
      simp [e, h2]
theorem cnt_le (c : Int) (l : List Int) : cntL c l ≤ l.length := List.length_filter_le ..
def anyR (l : List Int) : Bool := l.any fun c => (repO c).isSome
theorem anyR_cnt (l : List Int) : anyR l = decide (cntL 62 l ≠ 0 ∨ cntL 60 l ≠ 0 ∨ cntL 38 l ≠ 0) := by
  induction l with
  | nil => rfl
  | cons c l ih =>
    have hc : ∀ d, cntL d (c :: l) = (if c = d then 1 else 0) + cntL d l := fun d => by
      unfold cntL
      rw [List.filter_cons]
      by_cases e : c = d
      · subst e; simp; omega
      · simp [e]
    show ((repO c).isSome || anyR l) = _
    rw [ih, hc, hc, hc]
    unfold repO
    by_cases h1 : c = 38
    · subst h1; simp
    · by_cases h2 : c = 60
      · subst h2; simp
      · by_cases h3 : c = 62
        · subst h3; simp
        · simp [h1, h2, h3]
theorem ints_ofInts (s : ByteArray) : ofInts (intsOf s) = s := by
  unfold ofInts intsOf
  rw [List.map_map]
  apply ByteArray.ext
  show (List.map _ s.data.toList).toArray = s.data
  have : (List.map ((fun n : Int => UInt8.ofNat n.toNat) ∘ fun b : UInt8 => (b.toNat : Int)) s.data.toList) = s.data.toList := by
    refine (List.map_congr_left fun b _ => ?_).trans (List.map_id _)
    simp
  rw [this]
theorem anyR_none {s : ByteArray} (h : anyR (intsOf s) = false) : escB s = s := by
  rw [anyR_cnt] at h
  have h := of_decide_eq_false h
  unfold escB
  rw [esc_same _ (by omega) (by omega) (by omega)]
  exact ints_ofInts s
theorem anyR_snoc (l : List Int) (c : Int) : anyR (l ++ [c]) = (anyR l || (repO c).isSome) := by simp [anyR, List.any_append]
theorem byt_nat (s : ByteArray) (i : Nat) : ∃ b : Nat, byt s i = (b : Int) ∧ b < 256 := by
  have := byt_nonneg s i
  exact ⟨(byt s i).toNat, by omega, by omega⟩
theorem esc_step (s : ByteArray) {i : Nat} (h : i < s.size) : escL ((intsOf s).take (i + 1)) = escL ((intsOf s).take i) ++ escC (byt s i) := by
  have hl : i < (intsOf s).length := by rw [intsOf_len]; exact h
  rw [List.take_add_one, List.getElem?_eq_getElem hl, escL_append]
  congr 1
  have : (intsOf s)[i] = byt s i := by rw [← intsOf_get, List.getD_eq_getElem?_getD, List.getElem?_eq_getElem hl]; rfl
  rw [this]
  show escC (byt s i) ++ [] = _
  rw [List.append_nil]
theorem any_step (s : ByteArray) {i : Nat} (h : i < s.size) : anyR ((intsOf s).take (i + 1)) = (anyR ((intsOf s).take i) || (repO (byt s i)).isSome) := by
  have hl : i < (intsOf s).length := by rw [intsOf_len]; exact h
  rw [List.take_add_one, List.getElem?_eq_getElem hl]
  have : (intsOf s)[i] = byt s i := by rw [← intsOf_get, List.getD_eq_getElem?_getD, List.getElem?_eq_getElem hl]; rfl
  rw [this]
  exact anyR_snoc _ _
/-- A buffer whose first cells are the bytes t. -/
def BufAt (W : World) (gb NN : Nat) (t : List Int) : Prop := ∃ cur : List Value, Hid (W.heap[gb]? = some (.cells cur.toArray 5 (0, 0))) ∧ cur.length = NN ∧ cur.take t.length = t.map (Value.int .u8)
theorem BufAt.lt {W : World} {gb NN : Nat} {t : List Int} (h : BufAt W gb NN t) : gb < W.heap.size := by
  obtain ⟨cur, h1, _⟩ := h
  exact (Array.getElem?_eq_some_iff.1 h1.out).1
theorem BufAt.cell {W : World} {gb NN : Nat} {t : List Int} (h : BufAt W gb NN t) {j : Nat} (hj : j < NN) : (∃ v, W.cell? ⟨gb, j, none⟩ = some v) ∧ W.frozen? ⟨gb, j, none⟩ = false := by
  obtain ⟨cur, h1, h2, _⟩ := h
  have h1 := h1.out
  have hc : cur.toArray[j]? = some (cur[j]'(by omega)) := by rw [List.getElem?_toArray, List.getElem?_eq_getElem (by omega)]
  refine ⟨⟨cur[j]'(by omega), ?_⟩, ?_⟩
  · simp only [World.cell?, h1]
    rw [hc]
    rfl
  · unfold World.frozen?
    simp only [h1]
    simp
theorem BufAt.put {W : World} {gb NN j : Nat} {t : List Int} (h : BufAt W gb NN t) (hj : j = t.length) (hn : t.length < NN) (c : Int) : BufAt (W.setCell ⟨gb, j, none⟩ (.int .u8 c)) gb NN (t ++ [c]) := by
  obtain ⟨cur, h1, h2, h3⟩ := h
  subst hj
  refine ⟨cur.set t.length (.int .u8 c), ?_, by rw [List.length_set]; exact h2, ?_⟩
  · have := heap_setCell_same W gb t.length cur.toArray 5 (.int .u8 c) h1.out
    rw [List.setIfInBounds_toArray] at this
    exact this
  · rw [List.length_append, List.length_singleton, List.take_add_one, List.take_set_of_le (Nat.le_refl _), h3, List.map_append, List.getElem?_set_self (by omega)]
    rfl
theorem BufAt.splice {W' : World} {gb NN j : Nat} {t q : List Int} {cur : List Value} (h2 : cur.length = NN) (h3 : cur.take t.length = t.map (Value.int .u8)) (hj : j = t.length) (hn : t.length + q.length ≤ NN) (hg : W'.heap[gb]? = some (.cells (Go.splice cur j (q.map (Value.int .u8))).toArray 5 (0, 0))) : BufAt W' gb NN (t ++ q) := by
  subst hj
  refine ⟨_, hid hg, by rw [Go.length_splice _ _ _ (by rw [List.length_map]; omega)]; exact h2, ?_⟩
  unfold Go.splice
  rw [h3, List.map_append, List.length_append, ← List.append_assoc]
  exact List.take_left' (by rw [List.length_append, List.length_map, List.length_map])
theorem BufAt.ba {W : World} {gb NN : Nat} {t : List Int} (h : BufAt W gb NN t) (hl : t.length = NN) (hb : ∀ x ∈ t, 0 ≤ x ∧ x ≤ 255) (hN : NN ≤ 2000000) : BA W (some ⟨gb, 0, none⟩) NN NN (ofInts t) := by
  obtain ⟨cur, h1, h2, h3⟩ := h
  have h1 := h1.out
  have hlt : gb < W.heap.size := (Array.getElem?_eq_some_iff.1 h1).1
  refine ⟨by rw [ofInts_size, hl], Nat.le_refl _, by omega, fun hn => ⟨gb, 0, rfl, hlt, ?_⟩⟩
  apply bytes_of_byt
  intro i hi
  rw [ofInts_size] at hi
  rw [Nat.zero_add, ofInts_byt t hb i hi]
  have hc : cur[i]? = some (.int .u8 (t.getD i 0)) := by
    have e : (cur.take t.length)[i]? = cur[i]? := by rw [List.getElem?_take, if_pos hi]
    rw [← e, h3, List.getElem?_map, List.getElem?_eq_getElem hi, List.getD_eq_getElem?_getD, List.getElem?_eq_getElem hi]
    rfl
  simp only [World.cell?, h1]
  rw [List.getElem?_toArray, hc]
  rfl
theorem esc_le (s : ByteArray) (k : Nat) : (escL ((intsOf s).take k)).length ≤ (escL (intsOf s)).length := by
  have := congrArg (fun l => (escL l).length) (List.take_append_drop k (intsOf s))
  simp only [escL_append, List.length_append] at this
  omega
theorem escC_len (c : Int) : 1 ≤ (escC c).length ∧ (escC c).length ≤ 5 := by
  unfold escC
  split
  · decide
  · split
    · decide
    · split
      · decide
      · exact ⟨Nat.le_refl _, by show 1 ≤ 5; decide⟩
theorem escL_two : ∀ l : List Int, l.length ≤ (escL l).length ∧ (escL l).length ≤ 5 * l.length
  | [] => ⟨Nat.le_refl _, Nat.le_refl _⟩
  | c :: l => by
    have ih := escL_two l
    have hc := escC_len c
    show _ ≤ (escC c ++ escL l).length ∧ (escC c ++ escL l).length ≤ _
    rw [List.length_append, List.length_cons]
    omega
theorem esc_five (s : ByteArray) (k : Nat) : (escL ((intsOf s).take k)).length ≤ 5 * k := by
  have := (escL_two ((intsOf s).take k)).2
  rw [List.length_take] at this
  omega
theorem esc_ge (s : ByteArray) (k : Nat) (h : k ≤ s.size) : k ≤ (escL ((intsOf s).take k)).length := by
  have := (escL_two ((intsOf s).take k)).1
  rw [List.length_take, intsOf_len] at this
  omega
theorem esc_rng (s : ByteArray) : ∀ x ∈ escL (intsOf s), 0 ≤ x ∧ x ≤ 255 := fun x hx => by
  obtain ⟨c, hc, hx⟩ := List.mem_flatMap.1 hx
  have := intsOf_rng s c hc
  unfold escC at hx
  split at hx
  · simp at hx; omega
  · split at hx
    · simp at hx; omega
    · split at hx
      · simp at hx; omega
      · rw [List.mem_singleton.1 hx]; omega
theorem info_u8sz : (Tryz.prog.info? 5).map (·.size) = some 1 := by kernel_rfl
theorem RpR_keep {w2 W : World} {g : Nat} {ob : Obj} (h : RpR w2 g) (hb : Below w2.heap.size (w2.alloc ob) W) : RpR W g := h.below (((Below.refl w2.heap.size w2).alloc (Nat.le_refl _) ob).trans hb)
theorem take_all (s : ByteArray) : (intsOf s).take s.size = intsOf s := by rw [← intsOf_len, List.take_length]
set_option maxHeartbeats 8000000 in
theorem rpReplace_any (g : Nat) (s : ByteArray) (w : World) (hr : RpR w g) (hs : s.size ≤ 100000) :
    Calls Tryz.prog 281 #[.pointer (some ⟨g, 0, none⟩), .string s] w fun e w' => e = .returned (.string (escB s)) ∧ Below w.heap.size w w' := by
  obtain ⟨t, c, xT, htl, t0, t1, t2⟩ := hr.row
  obtain ⟨b1, d1, x62, ba1, hb1⟩ := hr.some_ 62 gtR (by decide) rfl
  obtain ⟨b2, d2, x60, ba2, hb2⟩ := hr.some_ 60 ltR (by decide) rfl
  obtain ⟨b3, d3, x38, ba3, hb3⟩ := hr.some_ 38 ampR (by decide) rfl
  have HR := hid hr
  have HC := hid (fun (c : UInt8) (W : World) => Any.strings_Count_one (P := Tryz.prog) Tryz.laysRp138 s c W)
  have HLEN := hid (esc_len (intsOf s))
  have HANY := hid (anyR_cnt (intsOf s))
  have HNO := hid (fun h => anyR_none (s := s) h)
  have hc62 := cnt_le 62 (intsOf s)
  have hc60 := cnt_le 60 (intsOf s)
  have hc38 := cnt_le 38 (intsOf s)
  rw [intsOf_len] at hc62 hc60 hc38
  have HC62 := hid (fun W => HC.out 62 W)
  have HC60 := hid (fun W => HC.out 60 W)
  have HC38 := hid (fun W => HC.out 38 W)
  rw [show Lib.countByte s.data.toList 62 = cntL 62 (intsOf s) from cnt_byte s 62] at HC62
  rw [show Lib.countByte s.data.toList 60 = cntL 60 (intsOf s) from cnt_byte s 60] at HC60
  rw [show Lib.countByte s.data.toList 38 = cntL 38 (intsOf s) from cnt_byte s 38] at HC38
  have hg4 : gtR.size = 4 := rfl
  have hl4 : ltR.size = 4 := rfl
  have ha5 : ampR.size = 5 := rfl
  rw [hg4] at x62
  rw [hl4] at x60
  rw [ha5] at x38
  obtain ⟨n, hn⟩ : ∃ n, n = s.size := ⟨_, rfl⟩
  have HN := hid hn
  have hn5 : n ≤ 100000 := by omega
  have HNN := hid (show (escL (intsOf s)).length = n + 4 * cntL 38 (intsOf s) + 3 * cntL 60 (intsOf s) + 3 * cntL 62 (intsOf s) by rw [HLEN.out, intsOf_len, hn])
  generalize cntL 62 (intsOf s) = c62 at *
  generalize cntL 60 (intsOf s) = c60 at *
  generalize cntL 38 (intsOf s) = c38 at *
  obtain ⟨NN, hNN⟩ : ∃ NN, NN = (escL (intsOf s)).length := ⟨_, rfl⟩
  have HNL := hid hNN
  rw [← hNN] at HNN
  have hNb : NN ≤ 1200000 := by have := HNN.out; omega
  have HSTEP := hid (fun i (h : i < n) => esc_step s (i := i) (by rw [← HN.out]; exact h))
  have HANS := hid (fun i (h : i < n) => any_step s (i := i) (by rw [← HN.out]; exact h))
  have HLE := hid (fun k => esc_le s k)
  have HALL := hid (show (intsOf s).take n = intsOf s by rw [HN.out]; exact take_all s)
  have HESC := hid (show escB s = ofInts (escL (intsOf s)) from rfl)
  have HRNG := hid (esc_rng s)
  obtain ⟨AR, hAR⟩ : ∃ AR, AR = anyR (intsOf s) := ⟨_, rfl⟩
  have HAR := hid hAR
  rw [← hAR] at HANY HNO
  clear hAR
  have hnn1 : ∀ (W : World) (A : Addr) (n c : Nat), (binOp .neq 22 (.slice (some A) n c) (.slice none 0 0)).run Tryz.prog W = .ok (.bool true) W := fun W A n c => run_neq_slice_nil_any W _ _ _ _ _ _ _ Tryz.underlying22
  have hnn0 : ∀ (W : World), (binOp .neq 22 (.slice none 0 0) (.slice none 0 0)).run Tryz.prog W = .ok (.bool false) W := fun W => run_neq_slice_nil_any W _ _ _ _ _ _ _ Tryz.underlying22
  have hmk : ∀ W : World, (Instr.makeSlice 22 (.int .i64 (NN : Int)) (.int .i64 (NN : Int))).run Tryz.prog W = .ok (.slice (some ⟨W.heap.size, 0, none⟩) NN NN) (W.alloc (.cells (madeCells #[.int .u8 0] NN) 5)) := fun W => run_make_row' _ _ _ 1 Tryz.underlying22 info_u8 rfl .i64 .i64 NN (by omega) (by omega) W
  clear hn hr hNN ba1 ba2 ba3 HC HLEN hg4 hl4 ha5
  by_cases h24 : 24 ≤ s.size
  · have h24' : (24 : Int) ≤ (s.size : Int) := by omega
    go_enter Tryz.func281, Tryz.ntmps281
    go_wp2_with fail
    go_loopg [5, 6, 32] 3 (fun kx s5 s6 s32 wr => ((s32 = .int .i64 0 ∧ s5 = .int .i64 ((n : Nat) : Int) ∧ s6 = .bool false ∧ 3 ≤ kx) ∨ (s32 = .int .i64 1 ∧ s5 = .int .i64 ((n + 3 * c62 : Nat) : Int) ∧ s6 = .bool (decide (c62 ≠ 0)) ∧ 2 ≤ kx) ∨ (s32 = .int .i64 2 ∧ s5 = .int .i64 ((n + 3 * c62 + 3 * c60 : Nat) : Int) ∧ s6 = .bool (decide (c62 ≠ 0 ∨ c60 ≠ 0)) ∧ 1 ≤ kx) ∨ (s32 = .int .i64 3 ∧ s5 = .int .i64 (NN : Int) ∧ s6 = .bool AR)) ∧ ∃ q, wr = w.drewN q)
    case atStart => exact ⟨.inl ⟨rfl, by rw [HN.out], rfl, by omega⟩, 0, rfl⟩
    case round =>
      obtain ⟨⟨rfl, rfl, rfl, hk⟩ | ⟨rfl, rfl, rfl, hk⟩ | ⟨rfl, rfl, rfl, hk⟩ | ⟨rfl, rfl, rfl⟩, q, rfl⟩ := hrel
      all_goals (have z62 : (w.drewN q).cell? ⟨g, 62, none⟩ = _ := x62; have z60 : (w.drewN q).cell? ⟨g, 60, none⟩ = _ := x60; have z38 : (w.drewN q).cell? ⟨g, 38, none⟩ = _ := x38; have zt0 : (w.drewN q).cell? ⟨t, 0, none⟩ = _ := t0; have zt1 : (w.drewN q).cell? ⟨t, 1, none⟩ = _ := t1; have zt2 : (w.drewN q).cell? ⟨t, 2, none⟩ = _ := t2)
      · go_wp2_with fail
        refine (HC62.out _).mono ?_
        rintro e wz ⟨rfl, hw⟩
        have hw2 : w.drewN q = wz := hw.symm
        clear hw
        subst hw2
        by_cases hz : c62 = 0
        · have hz' : ((c62 : Nat) : Int) = 0 := by omega
          go_wp2_with fail
          go_roundg 2
          case measure => omega
          case rel => exact ⟨.inr (.inl ⟨rfl, congrArg (Value.int .i64) (by have := HNN.out; omega), congrArg Value.bool (decide_eq_false (by omega)).symm, by omega⟩), q, rfl⟩
        · have hz' : ¬ ((c62 : Nat) : Int) = 0 := by omega
          have hz2 : (((c62 : Nat) : Int) == 0) = false := by simpa using hz'
          have hix : ((⟨#[62]⟩ : ByteArray)[0]'(by decide)).toNat = 62 := rfl
          go_wp2_with fail
          go_quiet (fail)
          go_wp2_with fail
          go_roundg 2
          case measure => omega
          case rel => exact ⟨.inr (.inl ⟨rfl, by go_num, congrArg Value.bool (decide_eq_true (by omega)).symm, by omega⟩), q + nq, rfl⟩
      · go_wp2_with fail
        refine (HC60.out _).mono ?_
        rintro e wz ⟨rfl, hw⟩
        have hw2 : w.drewN q = wz := hw.symm
        clear hw
        subst hw2
        by_cases hz : c60 = 0
        · have hz' : ((c60 : Nat) : Int) = 0 := by omega
          go_wp2_with fail
          go_roundg 1
          case measure => omega
          case rel => exact ⟨.inr (.inr (.inl ⟨rfl, congrArg (Value.int .i64) (by have := HNN.out; omega), congrArg Value.bool (by by_cases h1 : c62 = 0 <;> by_cases h2 : c60 = 0 <;> simp [h1, h2, hz]), by omega⟩)), q, rfl⟩
        · have hz' : ¬ ((c60 : Nat) : Int) = 0 := by omega
          have hz2 : (((c60 : Nat) : Int) == 0) = false := by simpa using hz'
          have hix : ((⟨#[60]⟩ : ByteArray)[0]'(by decide)).toNat = 60 := rfl
          go_wp2_with fail
          go_quiet (fail)
          go_wp2_with fail
          go_roundg 1
          case measure => omega
          case rel => exact ⟨.inr (.inr (.inl ⟨rfl, by go_num, congrArg Value.bool (decide_eq_true (by omega)).symm, by omega⟩)), q + nq, rfl⟩
      · go_wp2_with fail
        refine (HC38.out _).mono ?_
        rintro e wz ⟨rfl, hw⟩
        have hw2 : w.drewN q = wz := hw.symm
        clear hw
        subst hw2
        by_cases hz : c38 = 0
        · have hz' : ((c38 : Nat) : Int) = 0 := by omega
          go_wp2_with fail
          go_roundg 0
          case measure => omega
          case rel => exact ⟨.inr (.inr (.inr ⟨rfl, congrArg (Value.int .i64) (by have := HNN.out; omega), congrArg Value.bool (by rw [HANY.out]; by_cases h1 : c62 = 0 <;> by_cases h2 : c60 = 0 <;> simp [h1, h2, hz])⟩)), q, rfl⟩
        · have hz' : ¬ ((c38 : Nat) : Int) = 0 := by omega
          have hz2 : (((c38 : Nat) : Int) == 0) = false := by simpa using hz'
          have hix : ((⟨#[38]⟩ : ByteArray)[0]'(by decide)).toNat = 38 := rfl
          go_wp2_with fail
          go_quiet (fail)
          go_wp2_with fail
          go_roundg 0
          case measure => omega
          case rel => exact ⟨.inr (.inr (.inr ⟨rfl, congrArg (Value.int .i64) (by have := HNN.out; omega), congrArg Value.bool (by rw [HANY.out]; exact (decide_eq_true (by omega)).symm)⟩)), q + nq, rfl⟩
      · have HB2 := hid (below_drewN w.heap.size w q)
        have HR2 := hid (show RpR (w.drewN q) g from HR.out.below HB2.out)
        clear z62 z60 z38 zt0 zt1 zt2 xT htl t0 t1 t2 x62 x60 x38 hb1 hb2 hb3
        generalize w.drewN q = w2 at *
        cases AR with
        | false =>
          have hes := HNO.out rfl
          have HES := hid hes
          clear hes
          go_wp2_with fail
          go_ret
          exact ⟨by rw [HES.out]; rfl, HB2.out⟩
        | true =>
          have hbf : BufAt (w2.alloc (.cells (madeCells #[.int .u8 0] NN) 5)) w2.heap.size NN [] := ⟨(madeCells #[.int .u8 0] NN).toList, by rw [Array.toArray_toList]; exact heap_alloc_new _ _, by simp [madeCells], rfl⟩
          have hb3 := HB2.out.alloc HB2.out.size (.cells (madeCells #[.int .u8 0] NN) 5)
          have hgb := HB2.out.size
          have hrb : RpR (w2.alloc (.cells (madeCells #[.int .u8 0] NN) 5)) g := HR2.out.below ((Below.refl _ _).alloc (Nat.le_refl _) _)
          have hal := heap_alloc_new w2 (.cells (madeCells #[.int .u8 0] NN) 5)
          have HBF := hid hbf
          have HB3 := hid hb3
          have HR3 := hid (fun W (h : Below w2.heap.size (w2.alloc (.cells (madeCells #[.int .u8 0] NN) 5)) W) => RpR_keep HR2.out h)
          clear hbf hb3 hrb hal
          go_wp2_with fail
          generalize w2.alloc (.cells (madeCells #[.int .u8 0] NN) 5) = w3 at *
          generalize w2.heap.size = gb at *
          go_loopg [13, 14] n (fun kx s13 s14 wr => ∃ i j : Nat, s13 = .int .i64 j ∧ s14 = .int .i64 i ∧ i ≤ n ∧ n - i ≤ kx ∧ j ≤ NN ∧ Hid (j = (escL ((intsOf s).take i)).length) ∧ Hid (BufAt wr gb NN (escL ((intsOf s).take i))) ∧ Hid (Below gb w3 wr))
          case atStart => exact ⟨0, 0, rfl, rfl, Nat.zero_le _, Nat.le_refl _, Nat.zero_le _, rfl, HBF.out, Below.refl _ _⟩
          case round =>
            obtain ⟨i, j, rfl, rfl, hi1, hgm, hjN, HJ, HBU, HBE⟩ := hrel
            by_cases hlt : i < n
            · have hlt' : (i : Int) < (s.size : Int) := by have := HN.out; omega
              have his : i < s.size := by have := HN.out; omega
              obtain ⟨bn, hbn, hb256⟩ := byt_nat s i
              have hidx : ((s[i]'his).toNat : Int) = (bn : Int) := by rw [← hbn]; exact getC s i his
              have hst := HSTEP.out i hlt
              have hle := HLE.out (i + 1)
              rw [hst, hbn, repO_esc] at hle
              rw [hbn, repO_esc] at hst
              rw [← HNL.out] at hle
              have HST := hid hst
              have hrr := HR3.out wr HBE.out
              clear hst hbn
              cases hrp : repO (bn : Int) with
              | none =>
                rw [hrp] at hle
                simp only [List.length_append, List.length_singleton] at hle
                have hjN2 : j < NN := by have := HJ.out; omega
                have xb := hrr.none_ bn hb256 hrp
                obtain ⟨⟨vb, yb⟩, fb⟩ := HBU.out.cell hjN2
                have HST2 := hid (HST.out)
                rw [hrp] at HST2
                clear hrr
                go_wp2_with fail
                have HBU2 := hid (HBU.out.put HJ.out (by have := HJ.out; omega) (bn : Int))
                go_roundg (n - (i + 1))
                case measure => omega
                case rel => exact ⟨i + 1, j + 1, by go_num, by go_num, by omega, Nat.le_refl _, by omega, (by show _ = _; rw [HST2.out, List.length_append, ← HJ.out]; rfl), (by show BufAt _ _ _ _; rw [HST2.out]; exact HBU2.out), HBE.out.setCell (Nat.le_refl _) _⟩
              | some q =>
                rw [hrp] at hle
                simp only [List.length_append, intsOf_len] at hle
                obtain ⟨bq, cq, xb, hbq, hbql⟩ := hrr.some_ bn q hb256 hrp
                have hq0 : 0 < q.size := by rcases repO_some hrp with ⟨_, rfl⟩ | ⟨_, rfl⟩ | ⟨_, rfl⟩ <;> decide
                have hjN2 : j + q.size ≤ NN := by have := HJ.out; omega
                have hjN3 : j < NN := by omega
                have HST2 := hid (HST.out)
                rw [hrp] at HST2
                clear hrr
                obtain ⟨cur, hcur, hcl, hct⟩ := HBU.out
                have hcsl : ((intsOf q).map (Value.int .u8)).length = q.size := by rw [List.length_map, intsOf_len]
                have hsrc : ∀ (jj : Nat) (v : Value), ((intsOf q).map (Value.int .u8))[jj]? = some v → wr.cell? (Addr.add ⟨bq, 0, none⟩ jj) = some v := fun jj v hv => by
                  have hjl : jj < q.size := by have := (List.getElem?_eq_some_iff.1 hv).1; rwa [hcsl] at this
                  obtain ⟨bb, oo, e0, _, hz⟩ := hbq.2.2.2 hq0
                  injection e0 with e0
                  injection e0 with e1 e2
                  subst e1 e2
                  rw [show (Addr.add ⟨bq, 0, none⟩ jj) = ⟨bq, 0 + jj, none⟩ by unfold Addr.add; split <;> simp_all, bytes_cell hz hjl]
                  have := u8s_get q jj hjl
                  unfold u8s at this
                  rw [this] at hv
                  exact hv
                have hone : ∀ v ∈ (intsOf q).map (Value.int .u8), v.oneCell' = true := fun v hv => by
                  obtain ⟨z, _, rfl⟩ := List.mem_map.1 hv
                  rfl
                obtain ⟨cs, hcs⟩ : ∃ cs, cs = (intsOf q).map (Value.int .u8) := ⟨_, rfl⟩
                have HCS := hid hcs
                rw [← hcs] at hcsl hsrc hone
                have HSRC := hid hsrc
                have HONE := hid hone
                have HCSL := hid hcsl
                have HCT := hid hct
                have HCL := hid hcl
                obtain ⟨qn, hqn⟩ : ∃ qn, qn = q.size := ⟨_, rfl⟩
                have HQN := hid hqn
                rw [← hqn] at xb hjN2 hq0
                have hb256' : (bn : Int) < 256 := by omega
                have xbd : wr.drew.cell? ⟨g, bn, none⟩ = _ := xb
                have HBD := hid (show Below gb w3 wr.drew from HBE.out.trans ⟨rfl, rfl, rfl, Nat.le_refl _, fun _ _ => rfl⟩)
                clear hcs hcsl hsrc hone hct hcl hqn hbq hle
                go_upto_region 28 with fail
                go_region_law (refine step_copy_splice rfl (.tmp 105) (.tmp 111) 22 22 rfl 5 Tryz.underlying22 info_u8sz _ _ _ _ _ _ rfl rfl gb j cur 5 hcur.out cs (by rw [HCSL.out, ← HQN.out]; first | (show _ = Nat.min qn (NN - j); unfold Nat.min; omega) | omega) (fun _ => ⟨if_neg (by omega), _, rfl, HSRC.out⟩) (by rw [HCSL.out, HCL.out, ← HQN.out]; exact hjN2) HONE.out gb w3 HBD.out (Nat.le_refl _) ?_; intro w4 hg4 hb4)
                have hcsq : cs.length = qn := by rw [HCSL.out, HQN.out]
                go_wp2_with fail
                have HBU2 := hid (BufAt.splice (q := intsOf q) HCL.out HCT.out HJ.out (by rw [intsOf_len, ← HQN.out, ← HJ.out]; exact hjN2) (by rw [← HCS.out]; exact hg4.out))
                go_roundg (n - (i + 1))
                case measure => omega
                case rel => exact ⟨i + 1, j + qn, by go_num, by go_num, by omega, Nat.le_refl _, by omega, (by show _ = _; rw [HST2.out, List.length_append, ← HJ.out, intsOf_len, HQN.out]), (by show BufAt _ _ _ _; rw [HST2.out]; exact HBU2.out), hb4⟩
            · have hlt' : ¬ ((i : Int) < (s.size : Int)) := by have := HN.out; omega
              have hin : i = n := by omega
              have hbu := HBU.out
              have hj := HJ.out
              rw [hin, HALL.out] at hbu hj
              have hba := hbu.ba HNL.out.symm HRNG.out (by omega)
              have hcv := conv_ba hba
              rw [← HESC.out] at hcv
              have HBZ := hid (HB3.out.trans (HBE.out.mono hgb))
              clear hin hbu hj hba
              go_wp2_with fail
              go_ret
              exact ⟨rfl, HBZ.out⟩
  · have h24' : ¬ (24 : Int) ≤ (s.size : Int) := by omega
    go_enter Tryz.func281, Tryz.ntmps281
    go_wp2_with fail
    go_loopg [5, 6, 10] n (fun kx s5 s6 s10 wr => ∃ i NI : Nat, s5 = .int .i64 NI ∧ s6 = .bool (anyR ((intsOf s).take i)) ∧ s10 = .int .i64 i ∧ i ≤ n ∧ n - i ≤ kx ∧ i ≤ NI ∧ NI ≤ 5 * n ∧ Hid (NI + i = n + (escL ((intsOf s).take i)).length) ∧ wr = w)
    case atStart => exact ⟨0, n, by rw [HN.out], rfl, rfl, Nat.zero_le _, Nat.le_refl _, Nat.zero_le _, by omega, rfl, rfl⟩
    case round =>
      obtain ⟨i, NI, rfl, rfl, rfl, hi1, hgm, hNI, hNb5, HNI, rfl⟩ := hrel
      by_cases hlt : i < n
      · have hlt' : (i : Int) < (s.size : Int) := by have := HN.out; omega
        have his : i < s.size := by have := HN.out; omega
        obtain ⟨bn, hbn, hb256⟩ := byt_nat s i
        have hidx : ((s[i]'his).toNat : Int) = (bn : Int) := by rw [← hbn]; exact getC s i his
        have hst := HSTEP.out i hlt
        have han := HANS.out i hlt
        rw [hbn, repO_esc] at hst
        rw [hbn] at han
        have hle := HLE.out (i + 1)
        rw [hst, ← HNL.out] at hle
        have HST := hid hst
        have HAN := hid han
        have hb256' : (bn : Int) < 256 := by omega
        clear hst han hbn
        have hei := HNI.out
        have hcnt : (escL ((intsOf s).take (i + 1))).length ≤ 5 * (i + 1) := esc_five s (i + 1)
        have hcnt0 : i ≤ (escL ((intsOf s).take i)).length := esc_ge s i (by omega)
        cases hrp : repO (bn : Int) with
        | none =>
          have xb := HR.out.none_ bn hb256 hrp
          have HST2 := hid (HST.out)
          have HAN2 := hid (HAN.out)
          rw [hrp] at HST2 HAN2
          simp only [Option.isSome_none, Bool.or_false] at HAN2
          clear hle hcnt hcnt0
          go_wp2_with fail
          go_roundg (n - (i + 1))
          case measure => omega
          case rel => exact ⟨i + 1, NI, rfl, by rw [HAN2.out], by go_num, by omega, Nat.le_refl _, by have := HNI.out; have := esc_ge s (i + 1) (by have := HN.out; omega); rw [HST2.out] at this; simp only [List.length_append, List.length_singleton] at this; omega, hNb5, (by show _ = _; rw [HST2.out, List.length_append]; have := HNI.out; simp only [List.length_singleton]; omega), rfl⟩
        | some q =>
          obtain ⟨bq, cq, xb, _, _⟩ := HR.out.some_ bn q hb256 hrp
          have hq0 : 4 ≤ q.size ∧ q.size ≤ 5 := by rcases repO_some hrp with ⟨_, rfl⟩ | ⟨_, rfl⟩ | ⟨_, rfl⟩ <;> decide
          have HST2 := hid (HST.out)
          have HAN2 := hid (HAN.out)
          rw [hrp] at HST2 HAN2
          simp only [Option.isSome_some, Bool.or_true] at HAN2
          have hne : NI + (q.size - 1) + (i + 1) = n + (escL ((intsOf s).take (i + 1))).length := by
            rw [HST2.out, List.length_append, intsOf_len]
            omega
          have HNE := hid hne
          obtain ⟨qn, hqn⟩ : ∃ qn, qn = q.size := ⟨_, rfl⟩
          have HQN := hid hqn
          rw [← hqn] at xb hq0
          have hub : NI + (qn - 1) ≤ 5 * n := by omega
          clear hle hcnt hcnt0 hne hqn hei
          go_wp2_with fail
          go_roundg (n - (i + 1))
          case measure => omega
          case rel => exact ⟨i + 1, NI + (qn - 1), by go_num, by rw [HAN2.out], by go_num, by omega, Nat.le_refl _, by omega, hub, (by show _ = _; rw [HQN.out]; exact HNE.out), rfl⟩
      · have hlt' : ¬ ((i : Int) < (s.size : Int)) := by have := HN.out; omega
        have hin : i = n := by omega
        have hni := HNI.out
        rw [hin, HALL.out, ← HNL.out] at hni
        obtain rfl : NN = NI := by omega
        have hga : anyR ((intsOf s).take i) = AR := by rw [hin, HALL.out]; exact HAR.out.symm
        rw [hga]
        obtain ⟨w2, hw2⟩ : ∃ w2, w2 = wr := ⟨_, rfl⟩
        have HB2 := hid (show Below wr.heap.size wr w2 by rw [hw2]; exact Below.refl _ _)
        have HR2 := hid (show RpR w2 g by rw [hw2]; exact HR.out)
        rw [← hw2]
        clear hw2 hin hni hga xT htl t0 t1 t2 x62 x60 x38 hb1 hb2 hb3
        cases AR with
        | false =>
          have hes := HNO.out rfl
          have HES := hid hes
          clear hes
          go_wp2_with fail
          go_ret
          exact ⟨by rw [HES.out]; rfl, HB2.out⟩
        | true =>
          have hbf : BufAt (w2.alloc (.cells (madeCells #[.int .u8 0] NN) 5)) w2.heap.size NN [] := ⟨(madeCells #[.int .u8 0] NN).toList, by rw [Array.toArray_toList]; exact heap_alloc_new _ _, by simp [madeCells], rfl⟩
          have hb3 := HB2.out.alloc HB2.out.size (.cells (madeCells #[.int .u8 0] NN) 5)
          have hgb := HB2.out.size
          have hrb : RpR (w2.alloc (.cells (madeCells #[.int .u8 0] NN) 5)) g := HR2.out.below ((Below.refl _ _).alloc (Nat.le_refl _) _)
          have hal := heap_alloc_new w2 (.cells (madeCells #[.int .u8 0] NN) 5)
          have HBF := hid hbf
          have HB3 := hid hb3
          have HR3 := hid (fun W (h : Below w2.heap.size (w2.alloc (.cells (madeCells #[.int .u8 0] NN) 5)) W) => RpR_keep HR2.out h)
          clear hbf hb3 hrb hal
          go_wp2_with fail
          generalize w2.alloc (.cells (madeCells #[.int .u8 0] NN) 5) = w3 at *
          generalize w2.heap.size = gb at *
          go_loopg [13, 14] n (fun kx s13 s14 wr => ∃ i j : Nat, s13 = .int .i64 j ∧ s14 = .int .i64 i ∧ i ≤ n ∧ n - i ≤ kx ∧ j ≤ NN ∧ Hid (j = (escL ((intsOf s).take i)).length) ∧ Hid (BufAt wr gb NN (escL ((intsOf s).take i))) ∧ Hid (Below gb w3 wr))
          case atStart => exact ⟨0, 0, rfl, rfl, Nat.zero_le _, Nat.le_refl _, Nat.zero_le _, rfl, HBF.out, Below.refl _ _⟩
          case round =>
            obtain ⟨i, j, rfl, rfl, hi1, hgm, hjN, HJ, HBU, HBE⟩ := hrel
            by_cases hlt : i < n
            · have hlt' : (i : Int) < (s.size : Int) := by have := HN.out; omega
              have his : i < s.size := by have := HN.out; omega
              obtain ⟨bn, hbn, hb256⟩ := byt_nat s i
              have hidx : ((s[i]'his).toNat : Int) = (bn : Int) := by rw [← hbn]; exact getC s i his
              have hst := HSTEP.out i hlt
              have hle := HLE.out (i + 1)
              rw [hst, hbn, repO_esc] at hle
              rw [hbn, repO_esc] at hst
              rw [← HNL.out] at hle
              have HST := hid hst
              have hrr := HR3.out wr HBE.out
              clear hst hbn
              cases hrp : repO (bn : Int) with
              | none =>
                rw [hrp] at hle
                simp only [List.length_append, List.length_singleton] at hle
                have hjN2 : j < NN := by have := HJ.out; omega
                have xb := hrr.none_ bn hb256 hrp
                obtain ⟨⟨vb, yb⟩, fb⟩ := HBU.out.cell hjN2
                have HST2 := hid (HST.out)
                rw [hrp] at HST2
                clear hrr
                go_wp2_with fail
                have HBU2 := hid (HBU.out.put HJ.out (by have := HJ.out; omega) (bn : Int))
                go_roundg (n - (i + 1))
                case measure => omega
                case rel => exact ⟨i + 1, j + 1, by go_num, by go_num, by omega, Nat.le_refl _, by omega, (by show _ = _; rw [HST2.out, List.length_append, ← HJ.out]; rfl), (by show BufAt _ _ _ _; rw [HST2.out]; exact HBU2.out), HBE.out.setCell (Nat.le_refl _) _⟩
              | some q =>
                rw [hrp] at hle
                simp only [List.length_append, intsOf_len] at hle
                obtain ⟨bq, cq, xb, hbq, hbql⟩ := hrr.some_ bn q hb256 hrp
                have hq0 : 0 < q.size := by rcases repO_some hrp with ⟨_, rfl⟩ | ⟨_, rfl⟩ | ⟨_, rfl⟩ <;> decide
                have hjN2 : j + q.size ≤ NN := by have := HJ.out; omega
                have hjN3 : j < NN := by omega
                have HST2 := hid (HST.out)
                rw [hrp] at HST2
                clear hrr
                obtain ⟨cur, hcur, hcl, hct⟩ := HBU.out
                have hcsl : ((intsOf q).map (Value.int .u8)).length = q.size := by rw [List.length_map, intsOf_len]
                have hsrc : ∀ (jj : Nat) (v : Value), ((intsOf q).map (Value.int .u8))[jj]? = some v → wr.cell? (Addr.add ⟨bq, 0, none⟩ jj) = some v := fun jj v hv => by
                  have hjl : jj < q.size := by have := (List.getElem?_eq_some_iff.1 hv).1; rwa [hcsl] at this
                  obtain ⟨bb, oo, e0, _, hz⟩ := hbq.2.2.2 hq0
                  injection e0 with e0
                  injection e0 with e1 e2
                  subst e1 e2
                  rw [show (Addr.add ⟨bq, 0, none⟩ jj) = ⟨bq, 0 + jj, none⟩ by unfold Addr.add; split <;> simp_all, bytes_cell hz hjl]
                  have := u8s_get q jj hjl
                  unfold u8s at this
                  rw [this] at hv
                  exact hv
                have hone : ∀ v ∈ (intsOf q).map (Value.int .u8), v.oneCell' = true := fun v hv => by
                  obtain ⟨z, _, rfl⟩ := List.mem_map.1 hv
                  rfl
                obtain ⟨cs, hcs⟩ : ∃ cs, cs = (intsOf q).map (Value.int .u8) := ⟨_, rfl⟩
                have HCS := hid hcs
                rw [← hcs] at hcsl hsrc hone
                have HSRC := hid hsrc
                have HONE := hid hone
                have HCSL := hid hcsl
                have HCT := hid hct
                have HCL := hid hcl
                obtain ⟨qn, hqn⟩ : ∃ qn, qn = q.size := ⟨_, rfl⟩
                have HQN := hid hqn
                rw [← hqn] at xb hjN2 hq0
                have hb256' : (bn : Int) < 256 := by omega
                have xbd : wr.drew.cell? ⟨g, bn, none⟩ = _ := xb
                have HBD := hid (show Below gb w3 wr.drew from HBE.out.trans ⟨rfl, rfl, rfl, Nat.le_refl _, fun _ _ => rfl⟩)
                clear hcs hcsl hsrc hone hct hcl hqn hbq hle
                go_upto_region 28 with fail
                go_region_law (refine step_copy_splice rfl (.tmp 105) (.tmp 111) 22 22 rfl 5 Tryz.underlying22 info_u8sz _ _ _ _ _ _ rfl rfl gb j cur 5 hcur.out cs (by rw [HCSL.out, ← HQN.out]; first | (show _ = Nat.min qn (NN - j); unfold Nat.min; omega) | omega) (fun _ => ⟨if_neg (by omega), _, rfl, HSRC.out⟩) (by rw [HCSL.out, HCL.out, ← HQN.out]; exact hjN2) HONE.out gb w3 HBD.out (Nat.le_refl _) ?_; intro w4 hg4 hb4)
                have hcsq : cs.length = qn := by rw [HCSL.out, HQN.out]
                go_wp2_with fail
                have HBU2 := hid (BufAt.splice (q := intsOf q) HCL.out HCT.out HJ.out (by rw [intsOf_len, ← HQN.out, ← HJ.out]; exact hjN2) (by rw [← HCS.out]; exact hg4.out))
                go_roundg (n - (i + 1))
                case measure => omega
                case rel => exact ⟨i + 1, j + qn, by go_num, by go_num, by omega, Nat.le_refl _, by omega, (by show _ = _; rw [HST2.out, List.length_append, ← HJ.out, intsOf_len, HQN.out]), (by show BufAt _ _ _ _; rw [HST2.out]; exact HBU2.out), hb4⟩
            · have hlt' : ¬ ((i : Int) < (s.size : Int)) := by have := HN.out; omega
              have hin : i = n := by omega
              have hbu := HBU.out
              have hj := HJ.out
              rw [hin, HALL.out] at hbu hj
              have hba := hbu.ba HNL.out.symm HRNG.out (by omega)
              have hcv := conv_ba hba
              rw [← HESC.out] at hcv
              have HBZ := hid (HB3.out.trans (HBE.out.mono hgb))
              clear hin hbu hj hba
              go_wp2_with fail
              go_ret
              exact ⟨rfl, HBZ.out⟩
end Go.Proofs.YtpnbkecchfhimaaGreatDoor
