/- Chapter 17: a control sequence is written: the walk. -/
import Derived.Test.YtlopigkaibkblaaDoorAnW1
import Derived.Test.YtlopigkaibkblaaDoorAnShelf2
import Derived.Test.YtlopigkaibkblaaDoorAnT
import Derived.Lib.AppendIntMem
import Derived.Deep.RegionWith
namespace Go.Proofs.YtlopigkaibkblaaDoor
open Go.RowKit
open Go.Lib (hid)
set_option linter.unusedVariables false

theorem extraB : Builder.Extra Tryd.prog Tryd.lays156_ren where
  sizeBuilder := by kernel_rfl
  liesBuilder := by kernel_rfl
  t5 := Tryd.underlying5
  a5 := Tryd.isAgg5
  z5 := Tryd.sizeOf5
  v5 := Tryd.zeroValue5
  infoByte := by kernel_rfl
  cellsByte := by kernel_rfl
  sizeByte := by kernel_rfl
  neB5 := by decide
/-- The table of powers of ten. -/
def Tab (w : World) : Prop := Lib.TabIs Tryd.prog w "internal/strconv.uint64pow10" .u64 Lib.pow10Tab
/-- A row of integers that came in. -/
def NA (w : World) (a : Option Addr) (n : Nat) (l : List Int) : Prop := n = l.length ∧ (0 < n → ∃ b off, a = some ⟨b, off, none⟩ ∧ b < w.heap.size ∧ ∀ i, i < n → w.cell? ⟨b, off + i, none⟩ = some (.int .i64 (l.getD i 0)))
theorem NA.below {w w' : World} {a : Option Addr} {n B : Nat} {l : List Int} (h : NA w a n l) (hb : Below B w w') (hB : w.heap.size ≤ B) : NA w' a n l :=
  ⟨h.1, fun hn => by
    obtain ⟨b, off, e, hbl, hz⟩ := h.2 hn
    exact ⟨b, off, e, Nat.lt_of_lt_of_le hbl hb.size, fun i hi => (World.cell?_of_block (hb.block b (by omega))).trans (hz i hi)⟩⟩
def strCells (l : List Int) : List Value := l.map fun x => .string (itoaB x)
theorem strCells_snoc (l : List Int) (v : Int) : strCells (l ++ [v]) = strCells l ++ [.string (itoaB v)] := by simp [strCells]
theorem strCells_len (l : List Int) : (strCells l).length = l.length := by simp [strCells]
theorem info_str : (Tryd.prog.info? 9).map (fun i => (i.zero, i.size, i.bytes)) = some (some (.string ⟨#[]⟩), 1, 16) := by kernel_rfl
theorem join_any {w : World} {B n : Nat} {v : Value} {l : List Int} (h : w.ownsRow B 9 1 v n (strCells l)) (hl : l.length ≤ 1000) (hr : ∀ x ∈ l, 0 ≤ x ∧ x ≤ 99999) :
    Calls Tryd.prog 24 #[v, .string semiB] w fun e w' => e = .returned (.string (joinI l)) ∧ Below w.heap.size w w' := by
  have hn := h.1
  rw [strCells_len, Nat.mul_one] at hn
  subst hn
  obtain ⟨A, c, rfl, h1, h2, hc⟩ := owns_form h
  have hjs := joinI_byt l hr
  have hjj := joinI_join l
  rcases Nat.eq_zero_or_pos l.length with h0 | h0
  · obtain rfl : l = [] := List.length_eq_zero_iff.1 h0
    refine (Any.strings_Join_none Tryd.lays156 extraB A c semiB w).mono ?_
    rintro e w' ⟨rfl, hw⟩
    exact ⟨rfl, by rw [hw]; exact Below.refl _ _⟩
  · obtain ⟨g, rfl, hg0, hg, hcell⟩ := hc h0
    have := Any.strings_Join Tryd.lays156 extraB g 0 c (l.map itoaB) semiB w (fun j x hx => by
      rw [List.getElem?_map] at hx
      obtain ⟨z, hz, rfl⟩ := Option.map_eq_some_iff.1 hx
      have hj : j < l.length := (List.getElem?_eq_some_iff.1 hz).1
      rw [Nat.zero_add, hcell j (by omega)]
      unfold strCells
      rw [List.getElem?_map, hz]
      rfl) hg (by rw [List.length_map]; omega) (by rw [List.length_map]; omega) (by
        have : (joinI l).size = (Lib.join ((l.map itoaB).map (·.data.toList)) semiB.data.toList).length := by rw [hjj]; simp [ByteArray.size]
        omega)
    rw [List.length_map] at this
    rw [hjj]
    exact this
theorem Tab.below {w w' : World} {B : Nat} (h : Tab w) (hb : Below B w w') (hB : w.heap.size ≤ B) : Tab w' := by
  unfold Tab Lib.TabIs World.var? at *
  cases hg : Tryd.prog.globalNamed "internal/strconv.uint64pow10" with
  | none => simp [hg] at h
  | some g =>
    simp only [hg, Option.bind_some] at h ⊢
    have hlt : g < w.heap.size := by
      rcases Nat.lt_or_ge g w.heap.size with h' | h'
      · exact h'
      · rw [Array.getElem?_eq_none h'] at h; simp at h
    rw [hb.block g (by omega)]
    exact h
theorem itoa_any (n : Int) (h0 : 0 ≤ n) (h1 : n ≤ 99999) (w : World) (ht : Tab w) : Calls Tryd.prog 23 #[.int .i64 n] w fun e w' => e = .returned (.string (itoaB n)) ∧ Below w.heap.size w w' := by
  refine (Any.strconv_Itoa Tryd.laysM171 n (by omega) (by omega) w ht).mono ?_
  rintro e w' ⟨rfl, k, os, hw⟩
  refine ⟨rfl, ?_⟩
  rw [hw]
  exact Lib.below_grow _ _ (Nat.le_refl _) _ _
theorem conv_one (W : World) (q : Nat) (t : TypeId) (c : Int) (h0 : 0 ≤ c) (h1 : c ≤ 255) (h : Blk W q t #[.int .u8 c]) : (convert 22 9 (.slice (some ⟨q, 0, none⟩) 1 1)).run Tryd.prog W = .ok (.string (oneB c)) W := by
  have hz : Lib.Bytes W q 0 (oneB c) := by
    apply bytes_of_byt
    intro i hi
    obtain rfl : i = 0 := by have : (oneB c).size = 1 := rfl; omega
    rw [oneB_byt h0 h1, h.cell 0]
    rfl
  have := Lib.run_convert_window (P := Tryd.prog) W 22 5 9 Tryd.underlying22 Tryd.underlying5 Tryd.underlying9 q 0 (oneB c) hz 0 1 1 (Nat.le_refl _)
  exact this

set_option maxRecDepth 100000 in
set_option maxHeartbeats 8000000 in
theorem write_any (last : Int) (h0 : 0 ≤ last) (h255 : last ≤ 255) (a : Option Addr) (n cap : Nat) (l : List Int) (w : World) (hl : NA w a n l) (hn : n ≤ 1000) (ht : Tab w) :
    Calls Tryd.prog 15 #[.int .u8 last, .slice a n cap] w fun e w' => e = .returned (.string (writeB last l)) ∧ Below w.heap.size w w' := by
  have ham := among_any last 64 126 w
  have HL := hid hl
  have HT := hid ht
  clear hl ht
  by_cases hr : 64 ≤ last ∧ last ≤ 126
  · have hT : amongB 64 126 last = true := decide_eq_true hr
    rw [hT] at ham
    have HAM := hid ham
    have HR := hid hr
    clear ham hT hr
    go_enter Tryd.func15, Tryd.ntmps15
    go_wp2_with fail
    refine HAM.out.mono ?_
    rintro e w2 ⟨rfl, hw⟩
    obtain rfl : w = w2 := hw.symm
    go_wp2_with fail
    obtain ⟨i0, hi0, hz0, hz1, hz2⟩ := info_parts info_str
    go_loopg [5, 13] n (fun kx s5 s13 wr => ∃ (j : Nat) (v : Value), s5 = v ∧ s13 = .int .i64 j ∧ j ≤ n ∧ n - j ≤ kx ∧ Hid (∀ x ∈ l.take j, 0 ≤ x ∧ x ≤ 99999) ∧ Hid (wr.ownsRow w.heap.size 9 1 v j (strCells (l.take j))) ∧ Hid (Below w.heap.size w wr))
    case atStart => exact ⟨0, .slice none 0 0, rfl, rfl, Nat.zero_le _, by omega, (fun x hx => by simp at hx), ⟨rfl, .inl ⟨rfl, rfl⟩⟩, Below.refl _ _⟩
    case round =>
      obtain ⟨j, v, rfl, rfl, hj, hg, HOK, HOWN, HB⟩ := hrel
      by_cases hlt : j < n
      · have hlt' : (j : Int) < (n : Int) := by omega
        obtain ⟨b, off, rfl, hbl, hcl⟩ := HL.out.2 (by omega)
        have hcell := (HB.out.cell (p := ⟨b, off + j, none⟩) hbl).trans (hcl j hlt)
        have hjl : j < l.length := by have := HL.out.1; omega
        have hjd : l.getD j 0 = l[j] := by simp [List.getD_eq_getElem?_getD, hjl]
        rw [hjd] at hcell
        have htk : l.take (j + 1) = l.take j ++ [l[j]] := by rw [List.take_add_one, List.getElem?_eq_getElem hjl]; rfl
        have hmem := List.getElem_mem hjl
        generalize l[j] = x at *
        have hj1 : (j : Int) + 1 ≤ 9223372036854775807 := by omega
        have HTK := hid htk
        have HMEM := hid hmem
        clear hcl hjd htk hmem
        by_cases hx : 0 ≤ x ∧ x ≤ 99999
        · obtain ⟨hx0, hx1⟩ := hx
          have hx0' : ¬ x < 0 := by omega
          have hx1' : ¬ 99999 < x := by omega
          have hit := itoa_any x hx0 hx1 wr (HT.out.below HB.out (Nat.le_refl _))
          have HIT := hid hit
          have HX := hid (And.intro hx0 hx1)
          clear hit hx0 hx1
          go_wp2_with fail
          refine HIT.out.mono ?_
          rintro e w5 ⟨rfl, hb5⟩
          have HB5 := hid (HB.out.trans (hb5.mono HB.out.size))
          have hown5 := own_kept HOWN.out (grown_of_below hb5 none) fun _ _ e => by cases e
          obtain ⟨A0, cp0, rfl⟩ := owns_slice hown5
          have HOWN5 := hid hown5
          clear hown5 hb5
          go_wp2_with (at_builtin; go_must (refine wpList_append_any _ rfl (.tmp 23) (.tmp 26) 46 rfl w.heap.size 9 i0 (.string ⟨#[]⟩) 1 16 Tryd.underlying46 hi0 hz0 hz1 hz2 rfl (by decide) _ j (strCells (l.take j)) rfl (HOWN5.out.alloc _) _ (some ⟨w5.heap.size, 0, none⟩) 1 1 [.string (itoaB x)] rfl (reads_blk1 (Blk.new w5 _ _)) (by simp [Value.oneCell']) (by unfold maxLen; omega) (by omega) (by have := HB5.out.size; simp; omega) ?_); intro v' w6 ho6 hg6 hl6; have hb6 := (HB5.out.alloc HB5.out.size _).grown hg6 (by have := HB5.out.size; simp; omega) (own_ge HOWN5.out); have HO6 := hid ho6; have HB6 := hid hb6; clear ho6 hg6 hl6 hb6)
          go_roundg (n - (j + 1))
          case measure => omega
          case rel =>
            refine ⟨j + 1, _, rfl, rfl, by omega, Nat.le_refl _, ?_, ?_, HB6⟩
            · show ∀ y ∈ _, _
              intro y hy
              rw [HTK.out] at hy
              rcases List.mem_append.1 hy with h | h
              · exact HOK.out y h
              · rw [List.mem_singleton.1 h]; exact HX.out
            · show World.ownsRow _ _ _ _ _ _ _
              rw [HTK.out, strCells_snoc]
              exact HO6.out
        · have HE := hid (show writeB last l = ⟨#[]⟩ from writeB_wrong fun h => hx (h.2 x HMEM.out))
          by_cases hx0 : x < 0
          · clear hx
            go_wp2_with fail
            go_ret
            rw [HE.out]
            exact ⟨rfl, HB.out⟩
          · have hx1 : 99999 < x := by omega
            clear hx
            go_wp2_with fail
            go_ret
            rw [HE.out]
            exact ⟨rfl, HB.out⟩
      · have hlt' : ¬ (j : Int) < (n : Int) := by omega
        obtain rfl : j = n := by omega
        have hta : l.take j = l := by rw [HL.out.1, List.take_length]
        have hok := HOK.out
        have how := HOWN.out
        rw [hta] at hok how
        have HE := hid (writeB_right (last := last) (l := l) ⟨HR.out, hok⟩)
        have hjo := fun (W : World) (hb : Below wr.heap.size wr W) => join_any (own_kept how (grown_of_below hb none) fun _ _ e => by cases e) (by have := HL.out.1; omega) hok
        have hjz : (joinI l).size ≤ 6 * l.length := (joinI_byt l hok).2
        have hjz : (joinI l).size ≤ 6000 := by have := HL.out.1; omega
        generalize joinI l = J at *
        have hs1 : ¬ ((⟨#[27, 91]⟩ : ByteArray).size + J.size > 9223372036854775807) := by show ¬ (2 + J.size > _); omega
        have hs2 : ¬ (((⟨#[27, 91]⟩ : ByteArray) ++ J).size + (oneB last).size > 9223372036854775807) := by rw [ByteArray.size_append]; show ¬ (2 + J.size + 1 > _); omega
        have hcn : ∀ W : World, (convert 22 9 (.slice (some ⟨W.heap.size, 0, none⟩) 1 1)).run Tryd.prog (W.alloc (.cells #[.int .u8 last] 5)) = .ok (.string (oneB last)) (W.alloc (.cells #[.int .u8 last] 5)) := fun W => conv_one _ W.heap.size 5 last h0 h255 (Blk.new W 5 #[.int .u8 last])
        have hcn2 : ∀ W : World, (convert 22 9 (.slice (some ⟨W.heap.size, 0, none⟩) 1 1)).run Tryd.prog (W.alloc (.cells #[.int .u8 last] 5)).drew = .ok (.string (oneB last)) (W.alloc (.cells #[.int .u8 last] 5)).drew := fun W => conv_one _ W.heap.size 5 last h0 h255 (Blk.new W 5 #[.int .u8 last])
        have hcv := fun (W W' : World) (hb : Blk W wr.heap.size 5 #[.int .u8 last]) (hw : Below W.heap.size W W') => conv_one W' wr.heap.size 5 last h0 h255 (hb.below hw hb.lt)
        have hs3 : ¬ ((⟨#[27, 91]⟩ : ByteArray).size + J.size + (oneB last).size > 9223372036854775807) := by show ¬ (2 + J.size + 1 > _); omega
        have hs4 : ¬ (2 + J.size + (oneB last).size > 9223372036854775807) := by show ¬ (2 + J.size + 1 > _); omega
        have hs5 : ¬ (9223372036854775807 < 2 + J.size + (oneB last).size) := hs4
        have HJO := hid hjo
        have HCV := hid hcv
        clear how hok hta hjo hlt hcv
        have HDR := hid (fun (W : World) (h : Below wr.heap.size wr W) => (⟨h.os, h.tape, h.output, h.size, h.block⟩ : Below wr.heap.size wr W.drew))
        have HAL := hid (fun (W : World) (h : Below wr.heap.size wr W) (o : Obj) => h.alloc h.size o)
        go_wp2_with fail
        generalize oneB last = L1 at *
        go_region_with (go_at_call 24; refine (HJO.out _ (by repeat (first | exact Below.refl _ _ | refine HDR.out _ ?_ | refine HAL.out _ ?_ _))).mono ?_; rintro e w5 ⟨rfl, hb5⟩; (try have hc5 := HCV.out _ _ (by first | exact Blk.new wr _ _ | exact Blk.new wr.drew _ _) hb5); have HB5 := hid (HB.out.trans (Below.mono (Below.trans (by repeat (first | exact Below.refl _ _ | refine HDR.out _ ?_ | refine HAL.out _ ?_ _)) (hb5.mono (by simp))) HB.out.size)); clear hb5)
        all_goals
          go_wp2_with fail
          go_ret
          rw [HE.out]
          refine ⟨by rw [append_assoc3]; rfl, ?_⟩
          repeat (first | exact HB5.out | exact HB5.out.size | refine Below.drew ?_ | refine Below.alloc ?_ ?_ _)
  · have hT : amongB 64 126 last = false := decide_eq_false hr
    rw [hT] at ham
    have HE := hid (show writeB last l = ⟨#[]⟩ from writeB_wrong fun h => hr h.1)
    have HAM := hid ham
    clear ham hT hr
    go_enter Tryd.func15, Tryd.ntmps15
    go_wp2_with fail
    refine HAM.out.mono ?_
    rintro e w2 ⟨rfl, hw⟩
    obtain rfl : w = w2 := hw.symm
    go_wp2_with fail
    go_ret
    rw [HE.out]
    exact ⟨rfl, Below.refl _ _⟩
end Go.Proofs.YtlopigkaibkblaaDoor
