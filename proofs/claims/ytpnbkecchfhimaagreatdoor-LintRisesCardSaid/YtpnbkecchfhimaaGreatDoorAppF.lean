/- Bytes appended to bytes without room: append([]byte("& "), r...): of no chapter. -/
import Derived.Test.YtpnbkecchfhimaaGreatDoorByt
import Derived.Deep.AppendSrc
import Derived.Laws.IdiomCopy
namespace Go.Proofs.YtpnbkecchfhimaaGreatDoor
open Go.RowKit
set_option linter.unusedVariables false
set_option maxRecDepth 100000

theorem full_append (W : World) (g : Nat) (s r : ByteArray) (A : Option Addr) (m c : Nat) (ty : TypeId) (hq : BA W (some ⟨g, 0, none⟩) s.size s.size s) (hr : BA W A m c r) (h0s : 0 < s.size) (hs : s.size ≤ 1000000) (hm : m ≤ 1000000) :
    ∃ A' c' w', (Builtin.append_ #[22, 22] ty #[.slice (some ⟨g, 0, none⟩) s.size s.size, .slice A m c]).run Tryz.prog W = .ok (.slice A' (s.size + m) c') w' ∧
      BA w' A' (s.size + m) c' (s ++ r) ∧ Below W.heap.size W w' := by
  obtain ⟨i0, hi, hz0, hz1, hz2⟩ := info_parts info_u8
  have hlr := hr.1
  obtain ⟨g', off', e', hgl, hz⟩ := hq.2.2.2 h0s
  injection e' with e'
  injection e' with e1 e2
  subst e1 e2
  have hsrc : Src Tryz.prog i0.size 22 (.slice A m c) m (u8s r) W := by
    rw [hz1]
    rcases Nat.eq_zero_or_pos m with h0 | h0
    · subst h0
      have hre : u8s r = [] := List.eq_nil_of_length_eq_zero (by rw [u8s_len]; omega)
      rw [hre]
      cases A with
      | none => exact Src.ofNil W Tryz.underlying22 c
      | some x => exact Src.ofSlice W Tryz.underlying22 x 0 c [] rfl (fun j u h => by simp at h) (fun u h => by cases h)
    · obtain ⟨b, off, rfl, hb, hzr⟩ := hr.2.2.2 h0
      refine Src.ofSlice W Tryz.underlying22 _ m c (u8s r) (by rw [u8s_len]; omega) (fun j u hu => ?_) (u8s_one r)
      have hj : j < r.size := by
        have := (List.getElem?_eq_some_iff.1 hu).1
        rwa [u8s_len] at this
      rw [u8s_get r j hj] at hu
      cases hu
      rw [show (Addr.add ⟨b, off, none⟩ j) = ⟨b, off + j, none⟩ by unfold Addr.add; split <;> simp_all]
      exact bytes_cell hzr hj
  have hlen : (u8s r).length = m := by rw [u8s_len]; exact hlr.symm
  rcases Nat.eq_zero_or_pos m with h0 | h0
  · subst h0
    have hre : u8s r = [] := List.eq_nil_of_length_eq_zero (by rw [u8s_len]; omega)
    have hrr : r = ⟨#[]⟩ := by
      have : r.data.size = 0 := hlr.symm
      cases r with
      | mk d => congr 1; exact Array.eq_empty_of_size_eq_zero this
    refine ⟨some ⟨g, 0, none⟩, s.size, W.setCells g (0 + s.size * i0.size) (u8s r), ?_, ?_, ?_⟩
    · exact run_append_room_src W 22 22 ty 5 i0 Tryz.underlying22 hi g 0 s.size s.size (.slice A 0 c) 0 (u8s r) hsrc (by omega) (fun j hj => by omega) (fun j hj => by omega)
    · rw [hre]
      show BA W _ _ _ _
      rw [hrr]
      rw [show s ++ ⟨#[]⟩ = s by
        cases s
        simp [ByteArray.ext_iff]]
      exact hq
    · rw [hre]
      exact Below.refl _ _
  · have hgrow := run_append_grow_src (P := Tryz.prog) W 22 22 ty 5 i0 (.int .u8 0) Tryz.underlying22 hi hz0 (some ⟨g, 0, none⟩) s.size s.size (u8s s) (by
        rw [hz1]
        refine run_firstCells_some W.drew 1 s.size ⟨g, 0, none⟩ s.size s.size (u8s s) (by rw [u8s_len]; omega) (fun j u hu => ?_)
        have hj : j < s.size := by
          have := (List.getElem?_eq_some_iff.1 hu).1
          rwa [u8s_len] at this
        rw [u8s_get s j hj] at hu
        cases hu
        rw [show (Addr.add ⟨g, 0, none⟩ j) = ⟨g, 0 + j, none⟩ by unfold Addr.add; split <;> simp_all]
        simpa using bytes_cell hz hj) (.slice A m c) m (u8s r) hsrc (by omega) (by omega) (growslice_fits (by omega) (by rw [hz2]; omega))
    have hge2 := grownCap_ge W (s.size + m) s.size 5
    have hcm2 := grownCap_le_maxLen W (s.size + m) s.size 5 (by unfold maxLen; omega)
    refine ⟨_, _, _, hgrow, ?_, ?_⟩
    · refine ⟨by rw [ByteArray.size_append]; omega, hge2, by unfold maxLen at hcm2; omega, fun hn => ⟨W.heap.size, 0, rfl, by simp, ?_⟩⟩
      apply bytes_of_byt
      intro j hj
      rw [ByteArray.size_append] at hj
      have hjl : j < (u8s s ++ u8s r).length := by rw [List.length_append, u8s_len, u8s_len]; omega
      have hg := u8s_get (s ++ r) j (by rw [ByteArray.size_append]; omega)
      rw [u8s_append] at hg
      rw [Nat.zero_add]
      have hnew := heap_alloc_new W.drew (.cells ((u8s s ++ u8s r).toArray ++ Builtin.zeroCells (Value.int .u8 0).cells (grownCap W (s.size + m) s.size 5 - (s.size + m))) 5)
      have hds : W.drew.heap.size = W.heap.size := rfl
      rw [hds] at hnew
      simp only [World.cell?, hnew]
      rw [Array.getElem?_append_left (by simpa using hjl), List.getElem?_toArray, hg]
      simp
    · have hd : Below W.heap.size W W.drew := ⟨rfl, rfl, rfl, Nat.le_refl _, fun _ _ => rfl⟩
      exact (hd.alloc (Nat.le_refl _) _).mono (by omega)
theorem wpList_append_full {ops : Array Oper} {rest : List Oper} {o : Oper} {a : Act} {Q : Exit → Act → World → Prop} (hgd : o.guard = none) (s x : Operand)
    (ho : o.op = .call { callee := .builtin .append, args := #[s, x], argTypes := #[22, 22] }) (W : World) (g : Nat) (z r : ByteArray) (n : Nat) (hn : n = z.size) (hs : a.eval s = .slice (some ⟨g, 0, none⟩) n n)
    (A : Option Addr) (m c : Nat) (hx : a.eval x = .slice A m c) (hq : BA W (some ⟨g, 0, none⟩) z.size z.size z) (hr : BA W A m c r) (h0 : 0 < z.size) (hz : z.size ≤ 1000000) (hm : m ≤ 1000000)
    (h : ∀ A' c' w', BA w' A' (n + m) c' (z ++ r) → Below W.heap.size W w' → wpList Tryz.prog ops Q rest (a.put o.dst (.slice A' (n + m) c')) w') : wpList Tryz.prog ops Q (o :: rest) a W := by
  subst hn
  refine wpList_plain hgd fun K hK => ?_
  obtain ⟨A', c', w', hrun, h1, h2⟩ := full_append W g z r A m c o.type hq hr h0 hz hm
  unfold Oper.wp
  simp [execOp, ho, resolve, invoke, builtin, hs, hx, hrun, Result.andThen]
  exact hK _ _ (h A' c' w' h1 h2)
end Go.Proofs.YtpnbkecchfhimaaGreatDoor
