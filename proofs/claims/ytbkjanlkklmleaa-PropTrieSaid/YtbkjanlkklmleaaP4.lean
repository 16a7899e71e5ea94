/- Chapter 04: classes: the plain law and the walks of prop.Class, prop.Name, prop.Number, and of the document's List and Class. -/
import Derived.Test.YtbkjanlkklmleaaProg
import Derived.Test.YtbkjanlkklmleaaBase
import Derived.KernelRfl
import Derived.Shelf.Abstract
import Derived.Deep.LoopGhost
import Derived.Great.Walk

/- out of Han -/
section
namespace Go.Proofs.Ytbkjanlkklmleaa.C4
open Go.RowKit
open Go.Lib

def hanB (r : Int) : Bool := decide (44032 ≤ r) && decide (r ≤ 55203)

theorem hangul_any (r : Int) (w : World) : Calls Try.prog 25 #[.int .i32 r] w fun e w' => e = .returned (.bool (hanB r)) ∧ w = w' := by
  by_cases h1 : 44032 ≤ r
  · by_cases h2 : r ≤ 55203
    · go_enter Try.func25, Try.ntmps25
      go_wp2
      go_ret
      exact ⟨by simp [hanB]; omega, rfl⟩
    · go_enter Try.func25, Try.ntmps25
      go_wp2
      go_ret
      exact ⟨by simp [hanB]; omega, rfl⟩
  · go_enter Try.func25, Try.ntmps25
    go_wp2
    go_ret
    exact ⟨by simp [hanB]; omega, rfl⟩
end Go.Proofs.Ytbkjanlkklmleaa.C4
end

/- out of Tab -/
section
namespace Go.Proofs.Ytbkjanlkklmleaa.C4

/-- The program's rows: from, to, class. -/
def tab : List (Int × Int × Int) := [
(0, 8, 4), (9, 9, 29), (10, 10, 2), (11, 12, 3), (13, 13, 1), (14, 31, 4), (32, 32, 29), (33, 33, 30), (34, 34, 27), (39, 39, 26), (40, 40, 31), (41,
41, 32), (44, 44, 24), (45, 45, 33), (46, 46, 25), (48, 57, 22), (58, 58, 23), (59, 59, 24), (63, 63, 30), (65, 90, 17), (91, 91, 31), (93, 93, 32),
(95, 95, 28), (97, 122, 18), (123, 123, 31), (125, 125, 32), (127, 132, 4), (133, 133, 3), (134, 159, 4), (160, 160, 34), (169, 169, 16), (170, 170,
18), (171, 171, 31), (173, 173, 7), (174, 174, 16), (181, 181, 18), (183, 183, 23), (186, 186, 18), (187, 187, 32), (192, 214, 17), (216, 222, 17),
(223, 246, 18), (248, 255, 18), (768, 879, 5), (913, 929, 17), (931, 939, 17), (940, 974, 18), (1024, 1071, 17), (1072, 1119, 18), (1155, 1161, 5),
(1425, 1469, 5), (1488, 1514, 19), (1536, 1541, 9), (1568, 1610, 19), (1611, 1631, 5), (1632, 1641, 22), (1757, 1757, 9), (2307, 2307, 10), (2308,
2361, 19), (2364, 2364, 5), (2366, 2368, 10), (2369, 2376, 5), (2377, 2380, 10), (2381, 2381, 5), (2404, 2405, 30), (2406, 2415, 22), (4352, 4447,
11), (4448, 4519, 12), (4520, 4607, 13), (5760, 5760, 29), (8192, 8198, 29), (8199, 8199, 34), (8200, 8202, 29), (8203, 8203, 35), (8204, 8204, 5),
(8205, 8205, 6), (8206, 8207, 7), (8208, 8208, 33), (8209, 8209, 34), (8211, 8212, 33), (8216, 8216, 27), (8217, 8217, 26), (8220, 8221, 27), (8228,
8228, 25), (8232, 8233, 3), (8234, 8238, 7), (8239, 8239, 34), (8252, 8253, 30), (8255, 8256, 28), (8260, 8260, 24), (8287, 8287, 29), (8288, 8292,
7), (8400, 8432, 5), (8986, 8987, 16), (9193, 9203, 16), (9728, 10175, 16), (12288, 12288, 29), (12289, 12289, 32), (12290, 12290, 30), (12296, 12296,
31), (12297, 12297, 32), (12298, 12298, 31), (12299, 12299, 32), (12300, 12300, 31), (12301, 12301, 32), (12330, 12335, 5), (12353, 12438, 21),
(12441, 12442, 5), (12449, 12538, 20), (12540, 12543, 20), (12784, 12799, 20), (13312, 19903, 21), (19968, 40959, 21), (43360, 43388, 11), (55216,
55238, 12), (55243, 55291, 13), (63744, 64255, 21), (65024, 65039, 5), (65056, 65071, 5), (65279, 65279, 7), (65281, 65281, 30), (65288, 65288, 31),
(65289, 65289, 32), (65292, 65292, 32), (65294, 65294, 25), (65296, 65305, 22), (65311, 65311, 30), (65313, 65338, 17), (65345, 65370, 18), (65382,
65437, 20), (127462, 127487, 8), (127744, 127994, 16), (127995, 127999, 5), (128000, 128591, 16), (128640, 128767, 16), (129280, 129535, 16), (131072,
196605, 21), (917536, 917631, 5), (917760, 917999, 5)]

/-- The document's ranges of a class, but of Other, LV and LVT. -/
def refList : Nat → List (Int × Int)
  | 1 => [(13, 13)]
  | 2 => [(10, 10)]
  | 3 => [(11, 12), (133, 133), (8232, 8233)]
  | 4 => [(0, 8), (14, 31), (127, 132), (134, 159)]
  | 5 => [(768, 879), (1155, 1161), (1425, 1469), (1611, 1631), (2364, 2364), (2369, 2376), (2381, 2381), (8204, 8204), (8400, 8432), (12330, 12335), (12441, 12442), (65024, 65039), (65056, 65071), (127995, 127999), (917536, 917631), (917760, 917999)]
  | 6 => [(8205, 8205)]
  | 7 => [(173, 173), (8206, 8207), (8234, 8238), (8288, 8292), (65279, 65279)]
  | 8 => [(127462, 127487)]
  | 9 => [(1536, 1541), (1757, 1757)]
  | 10 => [(2307, 2307), (2366, 2368), (2377, 2380)]
  | 11 => [(4352, 4447), (43360, 43388)]
  | 12 => [(4448, 4519), (55216, 55238)]
  | 13 => [(4520, 4607), (55243, 55291)]
  | 16 => [(169, 169), (174, 174), (8986, 8987), (9193, 9203), (9728, 10175), (127744, 127994), (128000, 128591), (128640, 128767), (129280, 129535)]
  | 17 => [(65, 90), (192, 214), (216, 222), (913, 929), (931, 939), (1024, 1071), (65313, 65338)]
  | 18 => [(97, 122), (170, 170), (181, 181), (186, 186), (223, 246), (248, 255), (940, 974), (1072, 1119), (65345, 65370)]
  | 19 => [(1488, 1514), (1568, 1610), (2308, 2361)]
  | 20 => [(12449, 12538), (12540, 12543), (12784, 12799), (65382, 65437)]
  | 21 => [(12353, 12438), (13312, 19903), (19968, 40959), (63744, 64255), (131072, 196605)]
  | 22 => [(48, 57), (1632, 1641), (2406, 2415), (65296, 65305)]
  | 23 => [(58, 58), (183, 183)]
  | 24 => [(44, 44), (59, 59), (8260, 8260)]
  | 25 => [(46, 46), (8228, 8228), (65294, 65294)]
  | 26 => [(39, 39), (8217, 8217)]
  | 27 => [(34, 34), (8216, 8216), (8220, 8221)]
  | 28 => [(95, 95), (8255, 8256)]
  | 29 => [(9, 9), (32, 32), (5760, 5760), (8192, 8198), (8200, 8202), (8287, 8287), (12288, 12288)]
  | 30 => [(33, 33), (63, 63), (2404, 2405), (8252, 8253), (12290, 12290), (65281, 65281), (65311, 65311)]
  | 31 => [(40, 40), (91, 91), (123, 123), (171, 171), (12296, 12296), (12298, 12298), (12300, 12300), (65288, 65288)]
  | 32 => [(41, 41), (93, 93), (125, 125), (187, 187), (12289, 12289), (12297, 12297), (12299, 12299), (12301, 12301), (65289, 65289), (65292, 65292)]
  | 33 => [(45, 45), (8208, 8208), (8211, 8212)]
  | 34 => [(160, 160), (8199, 8199), (8209, 8209), (8239, 8239)]
  | 35 => [(8203, 8203)]
  | _ => []
end Go.Proofs.Ytbkjanlkklmleaa.C4
end

/- out of Rows0 -/
section
namespace Go.Proofs.Ytbkjanlkklmleaa.C4
open Go.RowKit
open Go.Lib
open Go.Great
def tabCells : List (Int × Int × Int) → List Value
  | [] => []
  | (a, b, c) :: r => .int .i32 a :: .int .i32 b :: .int .i64 c :: tabCells r

set_option maxRecDepth 100000 in
set_option maxHeartbeats 1000000 in
theorem rows_any (w : World) : Calls Try.prog 26 #[] w fun e w' => e = .returned (.agg (tabCells tab).toArray) ∧ Below w.heap.size w w' := by
  refine calls_of_wp Try.func26 rfl ?_
  apply wp_seq_k; intro K0 hK0
  apply wp_region_lit
  refine wpList_runTo rfl (some 0) rfl (.pointer (some ⟨w.heap.size, 0, none⟩)) (w.alloc (.cells ((Try.prog.info? 54).bind (·.zero)).get!.cells 54)) (by as_aux_lemma => kernel_rfl) ?_
  apply wpList_nil
  refine hK0 _ _ ?_
  apply wp_seq_k; intro K1 hK1
  apply wp_region_lit
  refine wpList_table 140 _ _ 54 (.tmp 0) (.tmp 140) w.heap.size (tabCells tab).toArray (by as_aux_lemma => kernel_rfl) (by as_aux_lemma => kernel_rfl) _ _ (heap_alloc_new w _) (by as_aux_lemma => kernel_rfl) (by as_aux_lemma => kernel_rfl) (by as_aux_lemma => kernel_rfl) ?_
  intro a' hd hx
  refine hK1 _ _ ?_
  apply wp_ret
  refine bodyPost_ret (v := .agg (tabCells tab).toArray) (results_cell_row rfl _ _ w.heap.size _ _ _ _ (by simpa [Act.eval] using hx) (setRow_heap _ _ _ _ _ _ (heap_alloc_new w _)) Try.underlying54 rfl (by as_aux_lemma => kernel_rfl)) hd ⟨rfl, ?_⟩
  exact ⟨rfl, rfl, rfl, by simp, fun k hk => by rw [setRow_other _ _ _ _ (by omega)]; exact Below.heap_alloc _ _ _ hk⟩
end Go.Proofs.Ytbkjanlkklmleaa.C4
end

/- out of Class1 -/
section
namespace Go.Proofs.Ytbkjanlkklmleaa.C4
open Go.RowKit
open Go.Lib

theorem closure_any (bl br : Nat) (i : Nat) (hi r : Int) (w : World) (hlt : (i : Int) < 139) (hl : w.cell? ⟨bl, i * 3 + 1, none⟩ = some (.int .i32 hi)) (hr : w.cell? ⟨br, 0, none⟩ = some (.int .i32 r)) :
    Calls Try.prog 28 (#[.int .i64 i] ++ #[.pointer (some ⟨bl, 0, none⟩), .pointer (some ⟨br, 0, none⟩)]) w fun e w' => e = .returned (.bool (decide (r ≤ hi))) ∧ ∃ n, w' = w.drewN n := by
  go_enter Try.func28, Try.ntmps28
  go_wp2
  go_quiet (fail)
  go_wp2
  go_ret
  exact ⟨rfl, _, rfl⟩
end Go.Proofs.Ytbkjanlkklmleaa.C4
end

/- out of Search -/
section
namespace Go.Proofs.Ytbkjanlkklmleaa.C4
open Go.RowKit
open Go.Lib
open Go.Shelf

/-- What sort.Search answers of a predicate, whatever it is. -/
structure Found (n : Nat) (p : Nat → Bool) (k : Nat) : Prop where
  le : k ≤ n
  at_ : k = n ∨ p k = true
  ahead : k = 0 ∨ p (k - 1) = false

set_option maxHeartbeats 1000000 in
theorem search_any (g : Nat) (cb : Array Value) (n : Nat) (p : Nat → Bool) (I : World → Prop) (w : World) (eg : ∀ args w, (callFunc g args).run Try.prog w = .ok (.enter g args) w) (hsz : n < 4611686018427387904)
    (hf : ∀ (W : World) (i : Nat), I W → i < n → Calls Try.prog g (#[.int .i64 i] ++ cb) W fun e w' => e = .returned (.bool (p i)) ∧ I w') (hI : I w) :
    Calls Try.prog 27 #[.int .i64 n, .func (.func g) #[] cb] w fun e w' => ∃ k : Nat, e = .returned (.int .i64 k) ∧ Found n p k ∧ I w' := by
  have HF := Lib.hid hf
  clear hf
  have HI := Lib.hid hI
  clear hI
  go_enter Try.func27, Try.ntmps27
  go_wp2
  go_loopg [5, 6] n (fun kx s5 s6 wr => ∃ (lo hi : Nat), s5 = .int .i64 lo ∧ s6 = .int .i64 hi ∧ lo ≤ hi ∧ hi ≤ n ∧ hi - lo ≤ kx ∧ Hid (I wr ∧ (hi = n ∨ p hi = true) ∧ (lo = 0 ∨ p (lo - 1) = false)))
  case atStart => exact ⟨0, n, rfl, rfl, Nat.zero_le _, Nat.le_refl _, by omega, HI.out, .inl rfl, .inl rfl⟩
  case round =>
    obtain ⟨lo, hi, rfl, rfl, hlh, hin, hg, HQ⟩ := hrel
    by_cases hlt : lo < hi
    · have hc := HF.out wr ((lo + hi) / 2) HQ.out.1 (by omega)
      rw [show (((lo + hi) / 2 : Nat) : Int) = ((lo : Int) + (hi : Int)) / 2 by omega] at hc
      cases hp : p ((lo + hi) / 2) <;> rw [hp] at hc
      · have HP := Lib.hid hp
        clear hp
        go_wp2_with (go_at_fn g; refine hc.mono ?_; rintro e w' ⟨rfl, hi2⟩)
        have HI2 := Lib.hid hi2
        clear hi2
        go_roundg (hi - ((lo + hi) / 2 + 1))
        case measure => omega
        case rel =>
          exact ⟨(lo + hi) / 2 + 1, hi, by rw [show ((lo : Int) + (hi : Int)) / 2 + 1 = (((lo + hi) / 2 + 1 : Nat) : Int) by omega], rfl, by omega, hin, Nat.le_refl _, HI2.out, HQ.out.2.1, .inr HP.out⟩
      · have HP := Lib.hid hp
        clear hp
        go_wp2_with (go_at_fn g; refine hc.mono ?_; rintro e w' ⟨rfl, hi2⟩)
        have HI2 := Lib.hid hi2
        clear hi2
        go_roundg ((lo + hi) / 2 - lo)
        case measure => omega
        case rel =>
          exact ⟨lo, (lo + hi) / 2, rfl, by rw [show ((lo : Int) + (hi : Int)) / 2 = (((lo + hi) / 2 : Nat) : Int) by omega], by omega, by omega, Nat.le_refl _, HI2.out, .inr HP.out, HQ.out.2.2⟩
    · obtain rfl : hi = lo := by omega
      go_wp2
      go_ret
      exact ⟨hi, rfl, ⟨hin, HQ.out.2.1, HQ.out.2.2⟩, HQ.out.1⟩
end Go.Proofs.Ytbkjanlkklmleaa.C4
end

/- out of RefList -/
section
namespace Go.Proofs.Ytbkjanlkklmleaa.C4
open Go.RowKit
open Go.Lib

def pairCells : List (Int × Int) → List Value
  | [] => []
  | (a, b) :: r => .int .i32 a :: .int .i32 b :: pairCells r

/-- The value is a new slice over these pairs. -/
def IsPairs (B : Nat) (w : World) (v : Value) (l : List (Int × Int)) : Prop :=
  (l = [] ∧ v = .slice none 0 0) ∨ ∃ b t, B ≤ b ∧ v = .slice (some ⟨b, 0, none⟩) l.length l.length ∧ w.heap[b]? = some (.cells (pairCells l).toArray t (0, 0))

def ListPost (c : Int) (w : World) (e : Ending) (w' : World) : Prop := ∃ v, e = .returned v ∧ IsPairs w.heap.size w' v (refList c.toNat) ∧ Below w.heap.size w w'

theorem lp_mk {c k : Int} {n : Nat} {cs : Array Value} {t : TypeId} {w : World} (h : (c == k) = true) (hn : (refList k.toNat).length = n) (hcs : cs = (pairCells (refList k.toNat)).toArray) :
    ListPost c w (.returned (.slice (some ⟨w.heap.size, 0, none⟩) n n)) (w.alloc (.cells cs t)) := by
  obtain rfl : c = k := by simpa using h
  subst hn hcs
  refine ⟨_, rfl, .inr ⟨w.heap.size, t, Nat.le_refl _, rfl, heap_alloc_new _ _⟩, (Below.refl _ _).alloc (Nat.le_refl _) _⟩

theorem lp_nil {c : Int} {w : World} (h : refList c.toNat = []) : ListPost c w (.returned (.slice none 0 0)) w :=
  ⟨_, rfl, .inl ⟨h, rfl⟩, Below.refl _ _⟩

set_option maxHeartbeats 4000000 in
set_option maxRecDepth 100000 in
theorem reflist_any (c : Int) (h0 : 0 ≤ c) (h1 : c ≤ 35) (w : World) : Calls Try.prog 22 #[.int .i64 c] w (ListPost c w) := by
  go_enter Try.func22, Try.ntmps22
  go_wp2
  all_goals go_ret
  all_goals first
    | exact lp_mk ‹(c == _) = true› rfl rfl
    | (refine lp_nil ?_
       simp only [beq_eq_false_iff_ne, ne_eq] at *
       rcases (by omega : c = 0 ∨ c = 14 ∨ c = 15) with rfl | rfl | rfl <;> rfl)
end Go.Proofs.Ytbkjanlkklmleaa.C4
end

/- out of In -/
section
namespace Go.Proofs.Ytbkjanlkklmleaa.C4
open Go.RowKit
open Go.Lib

def inB (l : List (Int × Int)) (r : Int) : Bool := l.any fun p => decide (p.1 ≤ r) && decide (r ≤ p.2)

theorem inB_none (r : Int) : ∀ (l : List (Int × Int)), (∀ k (h : k < l.length), ¬ (l[k].1 ≤ r ∧ r ≤ l[k].2)) → inB l r = false := by
  intro l h
  unfold inB
  rw [List.any_eq_false]
  intro x hx
  obtain ⟨k, hk, rfl⟩ := List.getElem_of_mem hx
  have := h k hk
  simp only [Bool.and_eq_true, decide_eq_true_eq]
  exact this

theorem inB_some (r : Int) (l : List (Int × Int)) (k : Nat) (h : k < l.length) (h1 : l[k].1 ≤ r) (h2 : r ≤ l[k].2) : inB l r = true := by
  unfold inB
  rw [List.any_eq_true]
  exact ⟨l[k], List.getElem_mem h, by simp [h1, h2]⟩

theorem pairCells_get : ∀ (l : List (Int × Int)) (k : Nat) (h : k < l.length), (pairCells l)[k * 2]? = some (.int .i32 l[k].1) ∧ (pairCells l)[k * 2 + 1]? = some (.int .i32 l[k].2)
  | (a, b) :: r, 0, _ => ⟨rfl, rfl⟩
  | (a, b) :: r, k + 1, h => by
    have := pairCells_get r k (by simpa using h)
    simpa [pairCells, Nat.add_mul] using this

set_option maxHeartbeats 1000000 in
theorem refin_any (v : Value) (l : List (Int × Int)) (r : Int) (B : Nat) (w : World) (hlen : l.length < 100) (hv : IsPairs B w v l) :
    Calls Try.prog 33 #[v, .int .i32 r] w fun e w' => e = .returned (.bool (inB l r)) ∧ Below w.heap.size w w' := by
  rcases hv with ⟨rfl, rfl⟩ | ⟨b, t, _, rfl, hb⟩
  · go_enter Try.func33, Try.ntmps33
    go_wp2
    go_loop [5] (fun i => i = .int .i64 0) (fun _ => 0)
    case atStart => rfl
    case round =>
      subst hrel
      go_wp2
      go_ret
      exact ⟨rfl, Below.refl _ _⟩
  · have hB := Lib.hid hb
    clear hb
    have hlen0 : (l.length : Int) < 100 := by omega
    go_enter Try.func33, Try.ntmps33
    go_wp2
    go_loop [5] (fun i => ∃ k : Nat, i = .int .i64 k ∧ k ≤ l.length ∧ Hid (∀ j (h : j < l.length), j < k → ¬ (l[j].1 ≤ r ∧ r ≤ l[j].2))) (fun i => l.length - (RowKit.intOf i).toNat)
    case atStart => exact ⟨0, rfl, Nat.zero_le _, fun j h hj => absurd hj (Nat.not_lt_zero _)⟩
    case round =>
      obtain ⟨k, rfl, hk, HK⟩ := hrel
      by_cases hlt : k < l.length
      · have hc0 : w.cell? ⟨b, k * 2, none⟩ = some (.int .i32 l[k].1) := by
          rw [cell_of_row _ _ _ _ _ _ hB.out]; simpa using (pairCells_get l k hlt).1
        have hc1 : w.cell? ⟨b, k * 2 + 1, none⟩ = some (.int .i32 l[k].2) := by
          rw [cell_of_row _ _ _ _ _ _ hB.out]; simpa using (pairCells_get l k hlt).2
        have hlt' : (k : Int) < (l.length : Int) := by omega
        have hsm := inB_some r l k hlt
        have HS := Lib.hid hsm
        have HN : Hid (¬ (l[k].1 ≤ r ∧ r ≤ l[k].2) → ∀ j (h : j < l.length), j < k + 1 → ¬ (l[j].1 ≤ r ∧ r ≤ l[j].2)) := by
          intro hn j h hj
          by_cases e : j = k
          · subst e; exact hn
          · exact HK.out j h (by omega)
        clear hsm
        generalize l[k].1 = lo at *
        generalize l[k].2 = hi at *
        by_cases h1 : lo ≤ r
        · by_cases h2 : r ≤ hi
          · go_wp2
            go_ret
            exact ⟨ret_bool (HS.out h1 h2).symm, Below.refl _ _⟩
          · go_wp2
            go_round
            case rel => exact ⟨k + 1, by go_num, by omega, HN.out (by omega)⟩
            case measure => simp [RowKit.intOf]; omega
        · go_wp2
          go_round
          case rel => exact ⟨k + 1, by go_num, by omega, HN.out (by omega)⟩
          case measure => simp [RowKit.intOf]; omega
      · obtain rfl : k = l.length := by omega
        go_wp2
        go_ret
        exact ⟨ret_bool (inB_none r l (fun j h => HK.out j h h)).symm, Below.refl _ _⟩
end Go.Proofs.Ytbkjanlkklmleaa.C4
end

/- out of Cls -/
section
namespace Go.Proofs.Ytbkjanlkklmleaa.C4
open Go.RowKit
open Go.Lib

/-- What the table tells: the first row that ends no earlier. -/
def tabCls (r : Int) : List (Int × Int × Int) → Int
  | [] => 0
  | (a, b, c) :: t => if r ≤ b then (if a ≤ r then c else 0) else tabCls r t

def cls (r : Int) : Int := if hanB r then (if (r - 44032) % 28 = 0 then 14 else 15) else tabCls r tab

/-- What the document tells: the first class from 'c' on in whose list the number is. -/
def refFrom (r : Int) : Nat → Nat → Int
  | 0, _ => 0
  | n + 1, c => if inB (refList c) r then (c : Int) else refFrom r n (c + 1)

def refCls (r : Int) : Int := if hanB r then (if (r - 44032) % 28 = 0 then 14 else 15) else refFrom r 35 1

def sorted : List (Int × Int × Int) → Bool
  | (a, b, _) :: (a', b', c') :: t => decide (a ≤ b) && decide (b < a') && sorted ((a', b', c') :: t)
  | [(a, b, _)] => decide (a ≤ b)
  | [] => true

theorem tab_sorted : sorted tab = true := by decide +kernel

theorem sorted_ge (x : Int × Int × Int) : ∀ (t : List (Int × Int × Int)), sorted (x :: t) = true → x.1 ≤ x.2.1 ∧ sorted t = true ∧ ∀ y ∈ t, x.2.1 < y.1 ∧ y.1 ≤ y.2.1
  | [], h => by simpa [sorted] using h
  | z :: t, h => by
    obtain ⟨a, b, c⟩ := x
    obtain ⟨a', b', c'⟩ := z
    simp only [sorted, Bool.and_eq_true, decide_eq_true_eq] at h
    obtain ⟨g1, g2, g3⟩ := sorted_ge (a', b', c') t h.2
    refine ⟨h.1.1, h.2, fun y hy => ?_⟩
    rcases List.mem_cons.1 hy with rfl | hy
    · exact ⟨h.1.2, g1⟩
    · have := g3 y hy
      have := h.1.2
      simp only at *
      omega

/-- In a sorted table the row that holds a number tells its class; where none does it is 0. -/
theorem tabCls_mem (r : Int) : ∀ (t : List (Int × Int × Int)), sorted t = true → ∀ x ∈ t, x.1 ≤ r → r ≤ x.2.1 → tabCls r t = x.2.2
  | [], _, x, hx, _, _ => by cases hx
  | (a, b, c) :: t, h, x, hx, h1, h2 => by
    obtain ⟨g1, g2, g3⟩ := sorted_ge _ _ h
    unfold tabCls
    rcases List.mem_cons.1 hx with rfl | hx
    · simp only at h1 h2
      rw [if_pos h2, if_pos h1]
    · have := (g3 x hx).1
      simp only at this
      rw [if_neg (by omega)]
      exact tabCls_mem r t g2 x hx h1 h2

theorem tabCls_none (r : Int) : ∀ (t : List (Int × Int × Int)), (∀ x ∈ t, ¬ (x.1 ≤ r ∧ r ≤ x.2.1)) → tabCls r t = 0
  | [], _ => rfl
  | (a, b, c) :: t, h => by
    unfold tabCls
    have := h (a, b, c) (by simp)
    simp only at this
    by_cases h1 : r ≤ b
    · rw [if_pos h1, if_neg (by omega)]
    · rw [if_neg h1]; exact tabCls_none r t fun x hx => h x (by simp [hx])

theorem refFrom_spec (r : Int) : ∀ n c, (∃ d, c ≤ d ∧ d < c + n ∧ inB (refList d) r = true ∧ refFrom r n c = d) ∨ ((∀ d, c ≤ d → d < c + n → inB (refList d) r = false) ∧ refFrom r n c = 0)
  | 0, c => .inr ⟨fun d h1 h2 => absurd h1 (by omega), rfl⟩
  | n + 1, c => by
    unfold refFrom
    by_cases h : inB (refList c) r = true
    · rw [if_pos h]; exact .inl ⟨c, Nat.le_refl _, by omega, h, rfl⟩
    · rw [if_neg h]
      rcases refFrom_spec r n (c + 1) with ⟨d, h1, h2, h3, h4⟩ | ⟨h1, h2⟩
      · exact .inl ⟨d, by omega, by omega, h3, h4⟩
      · refine .inr ⟨fun d g1 g2 => ?_, h2⟩
        by_cases e : d = c
        · subst e; simpa using h
        · exact h1 d (by omega) (by omega)

/-- Each range of the document stands in the table, and back. -/
theorem ref_in_tab : ((List.range 36).all fun c => (refList c).all fun p => tab.any fun x => x.1 == p.1 && x.2.1 == p.2 && x.2.2 == (c : Int)) = true := by decide +kernel
theorem tab_in_ref : (tab.all fun x => decide (1 ≤ x.2.2) && decide (x.2.2 < 36) && (refList x.2.2.toNat).any fun p => x.1 == p.1 && x.2.1 == p.2) = true := by decide +kernel

theorem cls_eq (r : Int) : cls r = refCls r := by
  unfold cls refCls
  split
  · rfl
  rcases refFrom_spec r 35 1 with ⟨d, h1, h2, h3, h4⟩ | ⟨h1, h2⟩
  · rw [h4]
    unfold inB at h3
    rw [List.any_eq_true] at h3
    obtain ⟨p, hp, hq⟩ := h3
    simp only [Bool.and_eq_true, decide_eq_true_eq] at hq
    have := ref_in_tab
    rw [List.all_eq_true] at this
    have := this d (by simp; omega)
    rw [List.all_eq_true] at this
    have := this p hp
    rw [List.any_eq_true] at this
    obtain ⟨x, hx, hx2⟩ := this
    simp only [Bool.and_eq_true, beq_iff_eq] at hx2
    obtain ⟨⟨e1, e2⟩, e3⟩ := hx2
    rw [tabCls_mem r tab tab_sorted x hx (by omega) (by omega), e3]
  · rw [h2]
    refine tabCls_none r tab fun x hx hr => ?_
    have := tab_in_ref
    rw [List.all_eq_true] at this
    have := this x hx
    simp only [Bool.and_eq_true, decide_eq_true_eq, List.any_eq_true, beq_iff_eq] at this
    obtain ⟨⟨g1, g2⟩, p, hp, e1, e2⟩ := this
    have hb := h1 x.2.2.toNat (by omega) (by omega)
    unfold inB at hb
    rw [List.any_eq_false] at hb
    have := hb p hp
    simp only [Bool.and_eq_true, decide_eq_true_eq] at this
    omega

theorem sorted_get (T : List (Int × Int × Int)) : sorted T = true → ∀ i j (hi : i < T.length) (hj : j < T.length), i < j → T[i].2.1 < T[j].2.1 := by
  induction T with
  | nil => intro _ i j hi; simp at hi
  | cons x t ih =>
    intro h i j hi hj hij
    obtain ⟨g1, g2, g3⟩ := sorted_ge _ _ h
    cases j with
    | zero => omega
    | succ j =>
      have hj' : j < t.length := by simpa using hj
      cases i with
      | zero =>
        have := g3 t[j] (List.getElem_mem hj')
        simp only [List.getElem_cons_zero, List.getElem_cons_succ]
        omega
      | succ i =>
        simp only [List.getElem_cons_succ]
        exact ih g2 i j (by simpa using hi) hj' (by omega)

/-- Of a sorted table: behind rows that end earlier the table's answer is that of what is left. -/
theorem tabCls_drop (r : Int) : ∀ (T : List (Int × Int × Int)) (k : Nat), (∀ i (h : i < T.length), i < k → T[i].2.1 < r) → tabCls r T = tabCls r (T.drop k)
  | [], k, _ => by simp
  | x :: t, 0, _ => rfl
  | (a, b, c) :: t, k + 1, h => by
    have h0 := h 0 (by simp) (by omega)
    simp only [List.getElem_cons_zero] at h0
    rw [List.drop_succ_cons, ← tabCls_drop r t k fun i hi hk => by
      have := h (i + 1) (by simpa using hi) (by omega)
      simpa using this]
    conv => lhs; unfold tabCls
    rw [if_neg (by omega)]

def hiAt (T : List (Int × Int × Int)) (i : Nat) : Int := (T.getD i (0, 0, 0)).2.1

theorem found_tab (r : Int) (T : List (Int × Int × Int)) (hs : sorted T = true) (k : Nat) (h : Found T.length (fun i => decide (r ≤ hiAt T i)) k) :
    (k = T.length → tabCls r T = 0) ∧ (∀ hk : k < T.length, tabCls r T = if T[k].1 ≤ r then T[k].2.2 else 0) := by
  have hall : ∀ i (hi : i < T.length), i < k → T[i].2.1 < r := by
    intro i hi hik
    rcases h.ahead with e | e
    · omega
    have hk1 : k - 1 < T.length := by have := h.le; omega
    simp only [decide_eq_false_iff_not, hiAt, List.getD_eq_getElem?_getD, List.getElem?_eq_getElem hk1, Option.getD_some] at e
    by_cases e2 : i = k - 1
    · subst e2; omega
    · have := sorted_get T hs i (k - 1) hi hk1 (by omega)
      omega
  refine ⟨fun e => ?_, fun hk => ?_⟩
  · rw [tabCls_drop r T k hall, e, List.drop_length]; rfl
  · rw [tabCls_drop r T k hall, List.drop_eq_getElem_cons hk]
    have hp : r ≤ T[k].2.1 := by
      rcases h.at_ with e | e
      · omega
      · simpa [hiAt, List.getD_eq_getElem?_getD, List.getElem?_eq_getElem hk] using e
    generalize T[k] = x at *
    obtain ⟨a, b, c⟩ := x
    show (if r ≤ b then (if a ≤ r then c else 0) else _) = _
    rw [if_pos hp]
end Go.Proofs.Ytbkjanlkklmleaa.C4
end

/- out of Class -/
section
namespace Go.Proofs.Ytbkjanlkklmleaa.C4
open Go.RowKit
open Go.Lib

theorem tabCells_get : ∀ (l : List (Int × Int × Int)) (k : Nat) (h : k < l.length), (tabCells l)[k * 3]? = some (.int .i32 l[k].1) ∧ (tabCells l)[k * 3 + 1]? = some (.int .i32 l[k].2.1) ∧ (tabCells l)[k * 3 + 2]? = some (.int .i64 l[k].2.2)
  | (a, b, c) :: r, 0, _ => ⟨rfl, rfl, rfl⟩
  | (a, b, c) :: r, k + 1, h => by
    have := tabCells_get r k (by simpa using h)
    simpa [tabCells, Nat.add_mul] using this

theorem tab_len : tab.length = 139 := by kernel_rfl
noncomputable def zeroRows : Array Value := ((Try.prog.info? 54).bind (·.zero)).get!.cells
theorem zeroRows_run (w : World) : (Instr.alloc 54 true (.tuple #[])).run Try.prog w = .ok (.pointer (some ⟨w.heap.size, 0, none⟩)) (w.alloc (.cells zeroRows 54)) := by kernel_rfl
theorem rows_info : (Try.prog.info? 54).map (·.size) = some (tabCells tab).toArray.size := by kernel_rfl
theorem zeroRows_size : zeroRows.size = (tabCells tab).toArray.size := by kernel_rfl
theorem rows_one : (tabCells tab).toArray.all (·.oneCell') = true := by kernel_rfl

/-- What prop.Class's closure and its last lines ask of memory. -/
def ClsInv (w0 : World) (bl : Nat) (r : Int) (W : World) : Prop :=
  W.heap[bl]? = some (.cells (tabCells tab).toArray 54 (0, 0)) ∧ W.cell? ⟨w0.heap.size, 0, none⟩ = some (.int .i32 r) ∧ Below w0.heap.size w0 W

theorem ClsInv.drewN {w0 W : World} {bl : Nat} {r : Int} (h : ClsInv w0 bl r W) (n : Nat) : ClsInv w0 bl r (W.drewN n) :=
  ⟨h.1, h.2.1, h.2.2.trans (below_drewN _ _ _)⟩

set_option maxHeartbeats 1000000 in
theorem class_any (r : Int) (w : World) : Calls Try.prog 10 #[.int .i32 r] w fun e w' => e = .returned (.int .i64 (cls r)) ∧ Below w.heap.size w w' := by
  by_cases hh : hanB r = true
  · have hb : 44032 ≤ r ∧ r ≤ 55203 := by simpa [hanB] using hh
    obtain ⟨hb1, hb2⟩ := hb
    have HH := Lib.hid hh
    clear hh
    by_cases hm : (r - 44032) % 28 = 0
    · have HM := Lib.hid hm
      have hm1 : ((r - 44032) % 28 == 0) = true := by simpa using hm
      clear hm
      go_enter Try.func10, Try.ntmps10
      go_wp2_with (go_at_call 25; refine (hangul_any _ _).mono ?_; rw [HH.out]; rintro e w' ⟨rfl, rfl⟩)
      go_ret
      exact ⟨ret_int (by rw [cls, if_pos HH.out, if_pos HM.out]), (Below.refl _ _).alloc (Nat.le_refl _) _⟩
    · have HM := Lib.hid hm
      have hm1 : ((r - 44032) % 28 == 0) = false := by simpa using hm
      clear hm
      go_enter Try.func10, Try.ntmps10
      go_wp2_with (go_at_call 25; refine (hangul_any _ _).mono ?_; rw [HH.out]; rintro e w' ⟨rfl, rfl⟩)
      go_ret
      exact ⟨ret_int (by rw [cls, if_pos HH.out, if_neg HM.out]), (Below.refl _ _).alloc (Nat.le_refl _) _⟩
  · have hh : hanB r = false := by simpa using hh
    have HH := Lib.hid hh
    clear hh
    go_enter Try.func10, Try.ntmps10
    go_wp2_with (first
      | (go_at_call 25; refine (hangul_any _ _).mono ?_; rw [HH.out]; rintro e w' ⟨rfl, rfl⟩)
      | (go_at_call 26; refine (rows_any _).mono ?_; rintro e w1 ⟨rfl, hb⟩)
      | (with_reducible refine wpList_allocZ 3 54 _ zeroRows 54 zeroRows_run ?_)
      | ((with_reducible refine wpList_store_row (o := ⟨none, .store 54 (.tmp 3) (.tmp 11), _, _, _, _⟩) rfl 54 _ _ rfl w1.heap.size (tabCells tab).toArray rfl rfl 54 zeroRows (heap_alloc_new _ _) rows_info zeroRows_size rows_one ?_)))
    have hinv : ClsInv w w1.heap.size r ((w1.alloc (.cells zeroRows 54)).setRow w1.heap.size (tabCells tab).toArray) := by
      have hs := hb.size
      simp only [World.size_alloc] at hs
      refine ⟨setRow_heap _ _ _ _ _ _ (heap_alloc_new _ _), ?_, ?_⟩
      · rw [cell_setRow_other _ _ _ _ (by simp; omega), World.cell?_alloc_old _ _ _ (by simp; omega), hb.cell (by simp)]
        simp
      · refine (((Below.refl w.heap.size w).alloc (Nat.le_refl _) _).trans (hb.mono (by simp))).trans ?_
        exact ⟨rfl, rfl, rfl, by simp, fun k hk => by rw [setRow_other _ _ _ _ (by omega)]; exact Below.heap_alloc _ _ _ (by omega)⟩
    clear hb
    generalize (w1.alloc (.cells zeroRows 54)).setRow w1.heap.size (tabCells tab).toArray = W1 at *
    generalize w1.heap.size = bl at *
    have HI := Lib.hid hinv
    clear hinv
    refine (search_any 28 #[.pointer (some ⟨bl, 0, none⟩), .pointer (some ⟨w.heap.size, 0, none⟩)] 139 (fun i => decide (r ≤ hiAt tab i)) (ClsInv w bl r) _ (fun _ _ => by kernel_rfl) (by omega) ?_ HI.out).mono ?_
    · intro W i hW hi
      have hi' : i < tab.length := by rw [tab_len]; exact hi
      refine (closure_any bl w.heap.size i (hiAt tab i) r W (by omega) ?_ hW.2.1).mono ?_
      · rw [cell_of_row _ _ _ _ _ _ hW.1]
        have := (tabCells_get tab i hi').2.1
        simpa [hiAt, List.getD_eq_getElem?_getD, List.getElem?_eq_getElem hi'] using this
      · rintro e w' ⟨rfl, n, rfl⟩
        exact ⟨rfl, hW.drewN n⟩
    · rintro e w2 ⟨k, rfl, hF, hI2⟩
      have hfound := found_tab r tab tab_sorted k (by rw [tab_len]; exact hF)
      have hk := hF.le
      have HB := Lib.hid hI2.2.2
      have HC := Lib.hid hI2.1
      have hr := hI2.2.1
      clear hI2 hF HI
      by_cases h139 : k = 139
      · have HR := Lib.hid (hfound.1 (by rw [tab_len]; exact h139))
        subst h139
        clear hfound
        go_wp2
        go_quiet (fail)
        go_wp2
        go_ret
        exact ⟨ret_int (by rw [cls, HH.out, HR.out]; rfl), HB.out.trans (below_drewN _ _ _)⟩
      · have hk' : k < tab.length := by rw [tab_len]; omega
        have HR := Lib.hid (hfound.2 hk')
        clear hfound
        have hc := tabCells_get tab k hk'
        have hc0 : w2.cell? ⟨bl, k * 3, none⟩ = some (.int .i32 tab[k].1) := by rw [cell_of_row _ _ _ _ _ _ HC.out]; simpa using hc.1
        have hc2 : w2.cell? ⟨bl, k * 3 + 2, none⟩ = some (.int .i64 tab[k].2.2) := by rw [cell_of_row _ _ _ _ _ _ HC.out]; simpa using hc.2.2
        clear hc
        generalize tab[k].1 = lo at *
        generalize tab[k].2.2 = c at *
        have hne : ((k : Int) == 139) = false := by simp; omega
        have hlt : (k : Int) < 139 := by omega
        by_cases hlo : lo ≤ r
        · have hg : decide (r < lo) = false := by simp; omega
          go_wp2
          go_quiet (fail)
          go_wp2
          go_ret
          exact ⟨ret_int (by rw [cls, HH.out, HR.out, if_pos hlo]; rfl), HB.out.trans (below_drewN _ _ _)⟩
        · have hg : decide (r < lo) = true := by simp; omega
          go_wp2
          go_quiet (fail)
          go_wp2
          go_ret
          exact ⟨ret_int (by rw [cls, HH.out, HR.out, if_neg (by omega : ¬ lo ≤ r)]; rfl), HB.out.trans (below_drewN _ _ _)⟩
end Go.Proofs.Ytbkjanlkklmleaa.C4
end

/- out of RefClass -/
section
namespace Go.Proofs.Ytbkjanlkklmleaa.C4
open Go.RowKit
open Go.Lib

theorem refLen : ((List.range 36).all fun c => decide ((refList c).length < 100)) = true := by decide +kernel
theorem refLen_lt (c : Nat) (h : c < 36) : (refList c).length < 100 := by
  have := refLen
  rw [List.all_eq_true] at this
  simpa using this c (by simpa using h)

theorem refFrom_yes {r : Int} {n c : Nat} (h : inB (refList c) r = true) : refFrom r (n + 1) c = c := by
  show (if _ then _ else _) = _
  rw [if_pos h]
theorem refFrom_no {r : Int} {n c : Nat} (h : inB (refList c) r = false) : refFrom r (n + 1) c = refFrom r n (c + 1) := by
  show (if _ then _ else _) = _
  rw [if_neg (by simp [h])]

set_option maxHeartbeats 1000000 in
theorem refclass_any (r : Int) (w : World) : Calls Try.prog 16 #[.int .i32 r] w fun e w' => e = .returned (.int .i64 (refCls r)) ∧ Below w.heap.size w w' := by
  by_cases hh : hanB r = true
  · have hb : 44032 ≤ r ∧ r ≤ 55203 := by simpa [hanB] using hh
    obtain ⟨hb1, hb2⟩ := hb
    have HH := Lib.hid hh
    clear hh
    by_cases hm : (r - 44032) % 28 = 0
    · have HM := Lib.hid hm
      have hm1 : ((r - 44032) % 28 == 0) = true := by simpa using hm
      clear hm
      go_enter Try.func16, Try.ntmps16
      go_wp2
      go_ret
      exact ⟨ret_int (by rw [refCls, if_pos HH.out, if_pos HM.out]), Below.refl _ _⟩
    · have HM := Lib.hid hm
      have hm1 : ((r - 44032) % 28 == 0) = false := by simpa using hm
      clear hm
      go_enter Try.func16, Try.ntmps16
      go_wp2
      go_ret
      exact ⟨ret_int (by rw [refCls, if_pos HH.out, if_neg HM.out]), Below.refl _ _⟩
  · have hh : hanB r = false := by simpa using hh
    have HH := Lib.hid hh
    have hcls : refCls r = refFrom r 35 1 := by rw [refCls, hh]; rfl
    have HC := Lib.hid hcls
    clear hcls
    have hor : r < 44032 ∨ 55203 < r := by
      simp [hanB] at hh
      omega
    clear hh
    rcases hor with h1 | h1
    case' inl => have hd1 : decide (44032 ≤ r) = false := by simp; omega
    case' inr =>
      have hd0 : decide (44032 ≤ r) = true := by simp; omega
      have hd1 : decide (r ≤ 55203) = false := by simp; omega
    all_goals
      go_enter Try.func16, Try.ntmps16
      go_wp2
      go_loopw [3] (fun i wr => ∃ c : Nat, 1 ≤ c ∧ c ≤ 36 ∧ i = .int .i64 c ∧ Hid (refCls r = refFrom r (36 - c) c) ∧ Below w.heap.size w wr) (fun i _ => 36 - (RowKit.intOf i).toNat)
      case atStart => exact ⟨1, by omega, by omega, rfl, HC, Below.refl _ _⟩
      case round =>
        obtain ⟨c, hc1, hc2, rfl, HR, hB⟩ := hrel
        have HB := Lib.hid hB
        have hsz := hB.size
        clear hB HC
        by_cases hlt : c ≤ 35
        · have hc1' : (1 : Int) ≤ (c : Int) := by omega
          have hc2' : (c : Int) ≤ 35 := by omega
          go_wp2_with fail
          refine (reflist_any (c : Int) (by omega) (by omega) _).mono ?_
          rintro e w1 ⟨v, rfl, hv, hb⟩
          rw [Int.toNat_natCast] at hv
          have HV := Lib.hid hv
          have HB1 := Lib.hid hb
          have hs1 := hb.size
          clear hv hb
          cases hin : inB (refList c) r
          · go_wp2_with (go_at_call 33; refine (refin_any v (refList c) r _ _ (refLen_lt c (by omega)) HV.out).mono ?_; rw [hin]; rintro e w2 ⟨rfl, hb2⟩)
            have HB2 := Lib.hid hb2
            clear hb2
            go_roundw
            case rel => exact ⟨c + 1, by omega, by omega, by go_num, by
              show refCls r = _
              rw [HR.out, show 36 - c = (36 - (c + 1)) + 1 by omega, refFrom_no hin], (HB.out.trans (HB1.out.mono (by omega))).trans (HB2.out.mono (by omega))⟩
            case measure => simp [RowKit.intOf]; omega
          · go_wp2_with (go_at_call 33; refine (refin_any v (refList c) r _ _ (refLen_lt c (by omega)) HV.out).mono ?_; rw [hin]; rintro e w2 ⟨rfl, hb2⟩)
            have HB2 := Lib.hid hb2
            clear hb2
            go_ret
            exact ⟨ret_int (by rw [HR.out, show 36 - c = (36 - (c + 1)) + 1 by omega, refFrom_yes hin]), (HB.out.trans (HB1.out.mono (by omega))).trans (HB2.out.mono (by omega))⟩
        · obtain rfl : c = 36 := by omega
          go_wp2
          go_ret
          exact ⟨ret_int (by rw [HR.out]; rfl), HB.out⟩
end Go.Proofs.Ytbkjanlkklmleaa.C4
end

/- out of Names -/
section
namespace Go.Proofs.Ytbkjanlkklmleaa.C4
open Go.RowKit
open Go.Lib

/-- The classes' names, in order. -/
def nameList : List ByteArray := [
  ⟨#[79, 116, 104, 101, 114]⟩,
  ⟨#[67, 82]⟩,
  ⟨#[76, 70]⟩,
  ⟨#[78, 101, 119, 108, 105, 110, 101]⟩,
  ⟨#[67, 111, 110, 116, 114, 111, 108]⟩,
  ⟨#[69, 120, 116, 101, 110, 100]⟩,
  ⟨#[90, 87, 74]⟩,
  ⟨#[70, 111, 114, 109, 97, 116]⟩,
  ⟨#[82, 101, 103, 105, 111, 110, 97, 108]⟩,
  ⟨#[80, 114, 101, 112, 101, 110, 100]⟩,
  ⟨#[83, 112, 97, 99, 105, 110, 103]⟩,
  ⟨#[76]⟩,
  ⟨#[86]⟩,
  ⟨#[84]⟩,
  ⟨#[76, 86]⟩,
  ⟨#[76, 86, 84]⟩,
  ⟨#[80, 105, 99, 116]⟩,
  ⟨#[85, 112, 112, 101, 114]⟩,
  ⟨#[76, 111, 119, 101, 114]⟩,
  ⟨#[76, 101, 116, 116, 101, 114]⟩,
  ⟨#[75, 97, 116, 97, 107, 97, 110, 97]⟩,
  ⟨#[73, 100, 101, 111, 103, 114, 97, 112, 104]⟩,
  ⟨#[68, 105, 103, 105, 116]⟩,
  ⟨#[77, 105, 100, 76, 101, 116, 116, 101, 114]⟩,
  ⟨#[77, 105, 100, 78, 117, 109]⟩,
  ⟨#[68, 111, 116]⟩,
  ⟨#[65, 112, 111, 115, 116, 114, 111, 112, 104, 101]⟩,
  ⟨#[81, 117, 111, 116, 101]⟩,
  ⟨#[74, 111, 105, 110, 101, 114]⟩,
  ⟨#[83, 112, 97, 99, 101]⟩,
  ⟨#[84, 101, 114, 109]⟩,
  ⟨#[79, 112, 101, 110]⟩,
  ⟨#[67, 108, 111, 115, 101]⟩,
  ⟨#[72, 121, 112, 104, 101, 110]⟩,
  ⟨#[71, 108, 117, 101]⟩,
  ⟨#[71, 97, 112]⟩]
theorem nameList_len : nameList.length = 36 := by kernel_rfl
def namesV : Array Value := (nameList.map Value.string).toArray
noncomputable def zeroNames : Array Value := ((Try.prog.info? 75).bind (·.zero)).get!.cells
theorem zeroNames_run (w : World) : (Instr.alloc 75 true (.tuple #[])).run Try.prog w = .ok (.pointer (some ⟨w.heap.size, 0, none⟩)) (w.alloc (.cells zeroNames 75)) := by kernel_rfl
theorem names_info : (Try.prog.info? 75).map (·.size) = some namesV.size := by kernel_rfl
theorem zeroNames_size : zeroNames.size = namesV.size := by kernel_rfl
theorem names_one : namesV.all (·.oneCell') = true := by kernel_rfl
theorem namesV_get (i : Nat) (h : i < 36) : namesV[i]? = some (.string (nameList.getD i ByteArray.empty)) := by
  unfold namesV
  have h' : i < nameList.length := by rw [nameList_len]; exact h
  simp [List.getD_eq_getElem?_getD, List.getElem?_eq_getElem h']

set_option maxRecDepth 100000 in
set_option maxHeartbeats 1000000 in
theorem names_any (w : World) : Calls Try.prog 36 #[] w fun e w' => e = .returned (.agg namesV) ∧ Below w.heap.size w w' := by
  refine calls_of_wp Try.func36 rfl ?_
  apply wp_seq_k; intro K0 hK0
  apply wp_region_lit
  refine Great.wpList_runTo rfl (some 0) rfl (.pointer (some ⟨w.heap.size, 0, none⟩)) (w.alloc (.cells zeroNames 75)) (by as_aux_lemma => kernel_rfl) ?_
  apply wpList_nil
  refine hK0 _ _ ?_
  apply wp_seq_k; intro K1 hK1
  apply wp_region_lit
  refine wpList_table 1 _ _ 75 (.tmp 0) (.tmp 1) w.heap.size namesV (by as_aux_lemma => kernel_rfl) (by as_aux_lemma => kernel_rfl) _ _ (heap_alloc_new w _) (by as_aux_lemma => kernel_rfl) (by as_aux_lemma => kernel_rfl) (by as_aux_lemma => kernel_rfl) ?_
  intro a' hd hx
  refine hK1 _ _ ?_
  apply wp_ret
  refine bodyPost_ret (v := .agg namesV) (results_cell_row rfl _ _ w.heap.size _ _ _ _ (by simpa [Act.eval] using hx) (setRow_heap _ _ _ _ _ _ (heap_alloc_new w _)) Try.underlying75 rfl (by as_aux_lemma => kernel_rfl)) hd ⟨rfl, ?_⟩
  exact ⟨rfl, rfl, rfl, by simp, fun k hk => by rw [setRow_other _ _ _ _ (by omega)]; exact Below.heap_alloc _ _ _ hk⟩

/-- A class's name. -/
def nmOf (c : Int) : ByteArray := if 0 ≤ c ∧ c < 36 then nameList.getD c.toNat ByteArray.empty else ByteArray.empty

theorem index_names (c : Int) (h0 : 0 ≤ c) (h1 : c < 36) (w : World) : (Instr.index 75 (.agg namesV) (.int .i64 c)).run Try.prog w = .ok (.string (nmOf c)) w := by
  refine run_index_arr _ 9 36 .string _ _ _ _ _ Try.underlying75 Try.underlying9 rfl (by kernel_rfl) h0 (by omega) ?_
  rw [namesV_get _ (by omega), nmOf, if_pos ⟨h0, h1⟩]

theorem name_any (c : Int) (w : World) : Calls Try.prog 21 #[.int .i64 c] w fun e w' => e = .returned (.string (nmOf c)) ∧ Below w.heap.size w w' := by
  by_cases h0 : c < 0
  · have HN := Lib.hid (show nmOf c = ByteArray.empty by rw [nmOf, if_neg (by omega)])
    go_enter Try.func21, Try.ntmps21
    go_wp2
    go_ret
    exact ⟨by rw [HN.out]; rfl, Below.refl _ _⟩
  · by_cases h1 : 36 ≤ c
    · have HN := Lib.hid (show nmOf c = ByteArray.empty by rw [nmOf, if_neg (by omega)])
      go_enter Try.func21, Try.ntmps21
      go_wp2
      go_ret
      exact ⟨by rw [HN.out]; rfl, Below.refl _ _⟩
    · have hix := fun w => index_names c (by omega) (by omega) w
      generalize nmOf c = s at *
      go_enter Try.func21, Try.ntmps21
      go_wp2_with (go_at_call 36; refine (names_any _).mono ?_; rintro e w1 ⟨rfl, hb⟩)
      go_ret
      exact ⟨rfl, by assumption⟩

/-- Where a text stands first in a list. -/
def IsIdx (zs : List ByteArray) (x : ByteArray) (i : Int) : Prop :=
  (i = -1 ∧ ∀ j, j < zs.length → zs.getD j ByteArray.empty ≠ x) ∨ (∃ k : Nat, k < zs.length ∧ i = k ∧ zs.getD k ByteArray.empty = x)

set_option maxHeartbeats 1000000 in
theorem index_any (b n c : Nat) (zs : List ByteArray) (x : ByteArray) (w : World) (hz : n = zs.length) (hbig : n < 1000000) (hc : ∀ j, j < zs.length → w.cell? ⟨b, j, none⟩ = some (.string (zs.getD j ByteArray.empty))) :
    Calls Try.prog 37 #[.slice (some ⟨b, 0, none⟩) n c, .string x] w fun e w' => ∃ i, e = .returned (.int .i64 i) ∧ IsIdx zs x i ∧ w = w' := by
  have HZ := Lib.hid hz
  have HC := Lib.hid hc
  clear hz hc
  go_enter Try.func37, Try.ntmps37
  go_wp2
  go_loopg [8] n (fun g s8 wr => ∃ k : Nat, k ≤ n ∧ n - k ≤ g ∧ s8 = .int .i64 k ∧ wr = w ∧ Hid (∀ j, j < k → zs.getD j ByteArray.empty ≠ x))
  case atStart => exact ⟨0, Nat.zero_le _, by omega, rfl, rfl, fun j hj => absurd hj (Nat.not_lt_zero _)⟩
  case round =>
    obtain ⟨k, hk, hg, rfl, rfl, A⟩ := hrel
    by_cases hlt : k < n
    · have ck : wr.cell? ⟨b, k, none⟩ = some (.string (zs.getD k ByteArray.empty)) := HC.out k (by rw [← HZ.out]; exact hlt)
      generalize hy : zs.getD k ByteArray.empty = y at ck
      have Y := Lib.hid hy
      clear hy
      by_cases hxy : x = y
      · subst hxy
        go_wp2
        go_ret
        exact ⟨_, rfl, .inr ⟨k, by rw [← HZ.out]; exact hlt, rfl, Y.out⟩, rfl⟩
      · have hne := str_ne hxy
        have HXY := Lib.hid hxy
        clear hxy
        go_wp2
        go_roundg (n - (k + 1))
        case measure => omega
        case rel =>
          refine ⟨k + 1, by omega, Nat.le_refl _, by go_num, rfl, fun j hj => ?_⟩
          by_cases e : j = k
          · subst e
            rw [Y.out]
            exact fun h => HXY.out h.symm
          · exact A.out j (by omega)
    · have : k = n := by omega
      subst this
      go_wp2
      go_ret
      exact ⟨_, rfl, .inl ⟨rfl, by rw [← HZ.out]; exact A.out⟩, rfl⟩

/-- What prop.Number answers. -/
def IsNumber (x : ByteArray) (n : Int) (ok : Bool) : Prop := (ok = false ∧ n = 0 ∧ ∀ j : Int, 0 ≤ j → j < 36 → nmOf j ≠ x) ∨ (ok = true ∧ 0 ≤ n ∧ n < 36 ∧ nmOf n = x)

theorem isNumber_of {x : ByteArray} {i : Int} (h : IsIdx nameList x i) : -1 ≤ i ∧ i < 36 ∧ IsNumber x (max i 0) (decide (0 ≤ i)) := by
  rcases h with ⟨rfl, h⟩ | ⟨k, hk, rfl, h⟩
  · refine ⟨by omega, by omega, .inl ⟨by decide, by decide, fun j h0 h1 => ?_⟩⟩
    rw [nmOf, if_pos ⟨h0, h1⟩]
    exact h _ (by rw [nameList_len]; omega)
  · rw [nameList_len] at hk
    refine ⟨by omega, by omega, .inr ⟨by simp, by omega, by omega, ?_⟩⟩
    rw [show max (k : Int) 0 = (k : Int) by omega, nmOf, if_pos ⟨by omega, by omega⟩, Int.toNat_natCast]
    exact h

def NumberPost (x : ByteArray) (w : World) (e : Ending) (w' : World) : Prop := ∃ n ok, e = .returned (.tuple #[.int .i64 n, .bool ok]) ∧ IsNumber x n ok ∧ Below w.heap.size w w'

set_option maxHeartbeats 1000000 in
theorem number_any (x : ByteArray) (w : World) : Calls Try.prog 20 #[.string x] w (NumberPost x w) := by
  go_enter Try.func20, Try.ntmps20
  go_wp2_with (first
    | (go_at_call 36; refine (names_any _).mono ?_; rintro e w1 ⟨rfl, hb⟩)
    | (with_reducible refine wpList_allocZ 4 75 _ zeroNames 75 zeroNames_run ?_)
    | ((with_reducible refine wpList_store_row (o := ⟨none, .store 75 (.tmp 4) (.tmp 6), _, _, _, _⟩) rfl 75 _ _ rfl w1.heap.size namesV rfl rfl 75 zeroNames (heap_alloc_new _ _) names_info zeroNames_size names_one ?_)))
  have hB : Below w.heap.size w ((w1.alloc (.cells zeroNames 75)).setRow w1.heap.size namesV) := by
    refine hb.trans ?_
    exact ⟨rfl, rfl, rfl, by simp, fun k hk => by rw [setRow_other _ _ _ _ (by have := hb.size; omega)]; exact Below.heap_alloc _ _ _ (by have := hb.size; omega)⟩
  have HR := Lib.hid (setRow_heap _ _ zeroNames namesV 75 (0, 0) (heap_alloc_new w1 (.cells zeroNames 75)))
  have HB := Lib.hid hB
  clear hB hb
  generalize (w1.alloc (.cells zeroNames 75)).setRow w1.heap.size namesV = W1 at *
  generalize w1.heap.size = bl at *
  refine (index_any bl 36 36 nameList x _ nameList_len.symm (by omega) ?_).mono ?_
  · intro j hj
    rw [nameList_len] at hj
    rw [cell_of_row _ _ _ _ _ _ HR.out, namesV_get j hj]
  · rintro e w2 ⟨i, rfl, hi, rfl⟩
    obtain ⟨h1, h2, h3⟩ := isNumber_of hi
    have H3 := Lib.hid h3
    clear h3 hi
    go_wp2
    go_ret2
    exact ⟨_, _, rfl, H3.out, HB.out⟩

end Go.Proofs.Ytbkjanlkklmleaa.C4
end

/- out of Names2 -/
section
namespace Go.Proofs.Ytbkjanlkklmleaa.C4
open Go.RowKit
open Go.Lib

theorem empty_toList : ByteArray.empty.toList = [] := by rw [Lib.toList_data]; rfl
theorem str_nonempty {a : ByteArray} (h : a ≠ ByteArray.empty) : (¬ a.toList = []) ∧ a.toList.isEmpty = false := by
  have : ¬ a.toList = [] := fun e => h (str_toList_inj.1 (by rw [e, empty_toList]))
  exact ⟨this, by simpa using this⟩

theorem namesV_at (c : Int) (h0 : 0 ≤ c) (h1 : c < 36) : namesV[c.toNat]? = some (.string (nmOf c)) := by
  rw [namesV_get _ (by omega), nmOf, if_pos ⟨h0, h1⟩]

theorem nm_inj_all : ((List.range 36).all fun a => (List.range 36).all fun b => a == b || !(decide (nameList.getD a ByteArray.empty = nameList.getD b ByteArray.empty))) = true := by decide +kernel
theorem nm_inj {a b : Int} (ha0 : 0 ≤ a) (ha1 : a < 36) (hb0 : 0 ≤ b) (hb1 : b < 36) (h : nmOf a = nmOf b) : a = b := by
  rw [nmOf, if_pos ⟨ha0, ha1⟩, nmOf, if_pos ⟨hb0, hb1⟩] at h
  have := nm_inj_all
  rw [List.all_eq_true] at this
  have := this a.toNat (by simp; omega)
  rw [List.all_eq_true] at this
  have := this b.toNat (by simp; omega)
  simp only [h, decide_true, Bool.not_true, Bool.or_false, beq_iff_eq] at this
  omega
theorem nm_ne_all : ((List.range 36).all fun a => decide (nameList.getD a ByteArray.empty ≠ ByteArray.empty)) = true := by decide +kernel
theorem nm_ne {a : Int} (ha0 : 0 ≤ a) (ha1 : a < 36) : nmOf a ≠ ByteArray.empty := by
  rw [nmOf, if_pos ⟨ha0, ha1⟩]
  have := nm_ne_all
  rw [List.all_eq_true] at this
  simpa using this a.toNat (by simp; omega)

def upperS : ByteArray := ⟨#[85, 112, 112, 101, 114]⟩
theorem upper_is : nmOf 17 = upperS := by decide +kernel
theorem upper_number {n : Int} {ok : Bool} (h : IsNumber upperS n ok) : n = 17 ∧ ok = true := by
  rcases h with ⟨_, _, h⟩ | ⟨h1, h2, h3, h4⟩
  · exact absurd upper_is (h 17 (by omega) (by omega))
  · exact ⟨nm_inj h2 h3 (by omega) (by omega) (h4.trans upper_is.symm), h1⟩

theorem cls_65 : cls 65 = 17 := by decide +kernel
theorem cls_44032 : cls 44032 = 14 := by decide +kernel
theorem cls_44033 : cls 44033 = 15 := by decide +kernel

set_option maxHeartbeats 1000000 in
theorem awake04_any (w : World) : Calls Try.prog 7 #[] w fun e w' => e = .returned (.bool true) ∧ Below w.heap.size w w' := by
  have h1 := fun w => (number_any upperS w).mono (R' := fun e w' => e = .returned (.tuple #[.int .i64 17, .bool true]) ∧ Below w.heap.size w w') (by
    rintro e w' ⟨n, ok, rfl, h, hb⟩
    obtain ⟨rfl, rfl⟩ := upper_number h
    exact ⟨rfl, hb⟩)
  have H1 := Lib.hid h1
  have h2 := class_any 65
  rw [cls_65] at h2
  have H2 := Lib.hid h2
  have h3 := class_any 44032
  rw [cls_44032] at h3
  have H3 := Lib.hid h3
  have h4 := class_any 44033
  rw [cls_44033] at h4
  have H4 := Lib.hid h4
  have h5 := name_any 17
  rw [upper_is] at h5
  have H5 := Lib.hid h5
  clear h1 h2 h3 h4 h5
  go_enter Try.func7, Try.ntmps7
  go_wp2_with fail
  refine (H1.out _).mono ?_
  rintro e w1 ⟨rfl, hb1⟩
  have HB1 := Lib.hid hb1
  clear hb1
  go_wp2_with fail
  refine (H2.out _).mono ?_
  rintro e w2 ⟨rfl, hb2⟩
  have HB2 := Lib.hid hb2
  clear hb2
  go_wp2_with fail
  refine (H5.out _).mono ?_
  rintro e w3 ⟨rfl, hb3⟩
  have HB3 := Lib.hid hb3
  clear hb3
  unfold upperS
  go_wp2_with fail
  refine (H3.out _).mono ?_
  rintro e w4 ⟨rfl, hb4⟩
  have HB4 := Lib.hid hb4
  clear hb4
  go_wp2_with fail
  refine (H4.out _).mono ?_
  rintro e w5 ⟨rfl, hb5⟩
  have HB5 := Lib.hid hb5
  clear hb5
  go_wp2
  go_ret
  have s1 := HB1.out.size
  have s2 := HB2.out.size
  have s3 := HB3.out.size
  have s4 := HB4.out.size
  exact ⟨rfl, (((HB1.out.trans (HB2.out.mono (by omega))).trans (HB3.out.mono (by omega))).trans (HB4.out.mono (by omega))).trans (HB5.out.mono (by omega))⟩
end Go.Proofs.Ytbkjanlkklmleaa.C4
end
