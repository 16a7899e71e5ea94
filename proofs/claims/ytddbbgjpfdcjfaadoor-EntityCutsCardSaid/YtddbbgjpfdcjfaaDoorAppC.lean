/- Bytes appended to a text's bytes: append([]byte(s), r...): of no chapter. -/
import Derived.Test.YtddbbgjpfdcjfaaDoorByt
import Derived.Deep.AppendSrc
import Derived.Laws.IdiomCopy
namespace Go.Proofs.YtddbbgjpfdcjfaaDoor
open Go.RowKit
set_option linter.unusedVariables false
set_option maxRecDepth 100000

theorem setCells_below (b : Nat) : ∀ (vs : List Value) (o : Nat) (w : World), Below b w (w.setCells b o vs) := by
  intro vs
  induction vs with
  | nil => intro o w; exact Below.refl _ _
  | cons v r ih => intro o w; exact ((Below.refl b w).setCell (p := ⟨b, o, none⟩) (Nat.le_refl _) v).trans (ih (o + 1) _)

theorem conv_append (w0 : World) (s r : ByteArray) (A : Option Addr) (m c : Nat) (ty : TypeId) (hr : BA (Lib.bytesWorld w0 5 s) A m c r) (hs : s.size ≤ 1000000) (hm : m ≤ 1000000) :
    ∃ A' c' w', (Builtin.append_ #[22, 22] ty #[.slice (some ⟨w0.heap.size, 0, none⟩) s.size (grownCap w0 s.size 0 5), .slice A m c]).run Tryd.prog (Lib.bytesWorld w0 5 s) = .ok (.slice A' (s.size + m) c') w' ∧
      BA w' A' (s.size + m) c' (s ++ r) ∧ Below w0.heap.size w0 w' := by
  obtain ⟨i0, hi, hz0, hz1, hz2⟩ := info_parts info_u8
  have hge := grownCap_ge w0 s.size 0 5
  have hcm := grownCap_le_maxLen w0 s.size 0 5 (by unfold maxLen; omega)
  have hold := Lib.bytesWorld_at_new w0 5 s
  have hbs : (Lib.bytesCells w0 5 s).size = grownCap w0 s.size 0 5 := by
    unfold Lib.bytesCells
    simp
    omega
  have hz := bytesWorld_new w0 5 s
  have hb0 := bytesWorld_below w0 5 s
  have hsz := Lib.bytesWorld_size w0 5 s
  generalize Lib.bytesWorld w0 5 s = W at *
  generalize grownCap w0 s.size 0 5 = cap at *
  have hlr := hr.1
  have hsrc : Src Tryd.prog i0.size 22 (.slice A m c) m (u8s r) W := by
    rw [hz1]
    rcases Nat.eq_zero_or_pos m with h0 | h0
    · subst h0
      have hre : u8s r = [] := List.eq_nil_of_length_eq_zero (by rw [u8s_len]; omega)
      rw [hre]
      cases A with
      | none => exact Src.ofNil W Tryd.underlying22 c
      | some x => exact Src.ofSlice W Tryd.underlying22 x 0 c [] rfl (fun j u h => by simp at h) (fun u h => by cases h)
    · obtain ⟨b, off, rfl, hb, hzr⟩ := hr.2.2.2 h0
      refine Src.ofSlice W Tryd.underlying22 _ m c (u8s r) (by rw [u8s_len]; omega) (fun j u hu => ?_) (u8s_one r)
      have hj : j < r.size := by
        have := (List.getElem?_eq_some_iff.1 hu).1
        rwa [u8s_len] at this
      rw [u8s_get r j hj] at hu
      cases hu
      rw [show (Addr.add ⟨b, off, none⟩ j) = ⟨b, off + j, none⟩ by unfold Addr.add; split <;> simp_all]
      exact bytes_cell hzr hj
  have hlen : (u8s r).length = m := by rw [u8s_len]; exact hlr.symm
  by_cases hroom : s.size + m ≤ cap
  · refine ⟨some ⟨w0.heap.size, 0, none⟩, cap, W.setCells w0.heap.size (0 + s.size * i0.size) (u8s r), ?_, ?_, hb0.trans (setCells_below _ _ _ _)⟩
    · refine run_append_room_src W 22 22 ty 5 i0 Tryd.underlying22 hi w0.heap.size 0 s.size cap (.slice A m c) m (u8s r) hsrc hroom (fun j hj => ?_) (fun j hj => ?_)
      · rw [hz1, Nat.mul_one, Nat.zero_add]
        have : (Lib.bytesCells w0 5 s)[s.size + j]? = some ((Lib.bytesCells w0 5 s)[s.size + j]'(by omega)) := Array.getElem?_eq_getElem (by omega)
        simp [World.cell?, hold, this]
      · rw [hz1, Nat.mul_one, Nat.zero_add]
        simp [World.frozen?, hold]
        omega
    · refine ⟨by rw [ByteArray.size_append]; omega, hroom, by unfold maxLen at hcm; omega, fun hn => ⟨w0.heap.size, 0, rfl, by have := (setCells_below w0.heap.size (u8s r) (0 + s.size * i0.size) W).size; omega, ?_⟩⟩
      apply bytes_of_byt
      intro j hj
      rw [ByteArray.size_append] at hj
      rw [hz1, Nat.mul_one, Nat.zero_add, Nat.zero_add]
      by_cases hjs : j < s.size
      · rw [World.cell?_setCells_out w0.heap.size _ _ _ _ (fun _ _ => Or.inl (by show j < s.size; omega))]
        have := bytes_cell hz hjs
        rw [Nat.zero_add] at this
        rw [this]
        congr 2
        unfold byt
        have hd : j < s.data.size := hjs
        simp only [ByteArray.data_append, Array.getD_eq_getD_getElem?, Array.getElem?_append_left hd]
      · have hin := World.cell?_setCells_in w0.heap.size (u8s r) s.size W (fun k hk => by
          have : (Lib.bytesCells w0 5 s)[s.size + k]? = some ((Lib.bytesCells w0 5 s)[s.size + k]'(by omega)) := Array.getElem?_eq_getElem (by omega)
          simp [World.cell?, hold, this]) (j - s.size) (by rw [u8s_len]; omega)
        rw [show s.size + (j - s.size) = j by omega] at hin
        rw [hin]
        have hg := u8s_get r (j - s.size) (by omega)
        rw [List.getElem?_eq_getElem (by rw [u8s_len]; omega)] at hg
        rw [Option.some.inj hg]
        congr 2
        unfold byt
        have hd : s.data.size ≤ j := by show s.size ≤ j; omega
        simp only [ByteArray.data_append, Array.getD_eq_getD_getElem?, Array.getElem?_append_right hd]
        rfl
  · have hgrow := run_append_grow_src (P := Tryd.prog) W 22 22 ty 5 i0 (.int .u8 0) Tryd.underlying22 hi hz0 (some ⟨w0.heap.size, 0, none⟩) s.size cap (u8s s) (by
        rw [hz1]
        refine run_firstCells_some W.drew 1 s.size ⟨w0.heap.size, 0, none⟩ s.size cap (u8s s) (by rw [u8s_len]; omega) (fun j u hu => ?_)
        have hj : j < s.size := by
          have := (List.getElem?_eq_some_iff.1 hu).1
          rwa [u8s_len] at this
        rw [u8s_get s j hj] at hu
        cases hu
        rw [show (Addr.add ⟨w0.heap.size, 0, none⟩ j) = ⟨w0.heap.size, 0 + j, none⟩ by unfold Addr.add; split <;> simp_all]
        simpa using bytes_cell hz hj) (.slice A m c) m (u8s r) hsrc (by omega) (by omega) (growslice_fits (by omega) (by rw [hz2]; omega))
    have hge2 := grownCap_ge W (s.size + m) cap 5
    have hcm2 := grownCap_le_maxLen W (s.size + m) cap 5 (by unfold maxLen; omega)
    refine ⟨_, _, _, hgrow, ?_, ?_⟩
    · refine ⟨by rw [ByteArray.size_append]; omega, hge2, by unfold maxLen at hcm2; omega, fun hn => ⟨W.heap.size, 0, rfl, by simp, ?_⟩⟩
      apply bytes_of_byt
      intro j hj
      rw [ByteArray.size_append] at hj
      have hjl : j < (u8s s ++ u8s r).length := by rw [List.length_append, u8s_len, u8s_len]; omega
      have hg := u8s_get (s ++ r) j (by rw [ByteArray.size_append]; omega)
      rw [u8s_append] at hg
      rw [Nat.zero_add]
      have hnew := heap_alloc_new W.drew (.cells ((u8s s ++ u8s r).toArray ++ Builtin.zeroCells (Value.int .u8 0).cells (grownCap W (s.size + m) cap 5 - (s.size + m))) 5)
      have hds : W.drew.heap.size = W.heap.size := rfl
      rw [hds] at hnew
      simp only [World.cell?, hnew]
      rw [Array.getElem?_append_left (by simpa using hjl), List.getElem?_toArray, hg]
      simp
    · have hd : Below W.heap.size W W.drew := ⟨rfl, rfl, rfl, Nat.le_refl _, fun _ _ => rfl⟩
      exact hb0.trans ((hd.alloc (Nat.le_refl _) _).mono (by omega))

theorem wpList_append_conv {ops : Array Oper} {rest : List Oper} {o : Oper} {a : Act} {Q : Exit → Act → World → Prop} (hgd : o.guard = none) (s x : Operand)
    (ho : o.op = .call { callee := .builtin .append, args := #[s, x], argTypes := #[22, 22] }) (w0 : World) (z r : ByteArray) (hs : a.eval s = .slice (some ⟨w0.heap.size, 0, none⟩) z.size (grownCap w0 z.size 0 5))
    (A : Option Addr) (m c : Nat) (hx : a.eval x = .slice A m c) (hr : BA (Lib.bytesWorld w0 5 z) A m c r) (hz : z.size ≤ 1000000) (hm : m ≤ 1000000)
    (h : ∀ A' c' w', BA w' A' (z.size + m) c' (z ++ r) → Below w0.heap.size w0 w' → wpList Tryd.prog ops Q rest (a.put o.dst (.slice A' (z.size + m) c')) w') : wpList Tryd.prog ops Q (o :: rest) a (Lib.bytesWorld w0 5 z) := by
  refine wpList_plain hgd fun K hK => ?_
  obtain ⟨A', c', w', hrun, h1, h2⟩ := conv_append w0 z r A m c o.type hr hz hm
  unfold Oper.wp
  simp [execOp, ho, resolve, invoke, builtin, hs, hx, hrun, Result.andThen]
  exact hK _ _ (h A' c' w' h1 h2)
end Go.Proofs.YtddbbgjpfdcjfaaDoor
