/- Chapter 23: the bytes of items' scalars: the walk. -/
import Derived.Test.YtlfbgaknljdanaaGreatDoorExM5
import Derived.Test.YtlfbgaknljdanaaGreatDoorExR
namespace Go.Proofs.YtlfbgaknljdanaaGreatDoor
open Go.RowKit Go.Shelf
open Go.Lib (hid)
set_option linter.unusedVariables false
set_option linter.unusedSimpArgs false
set_option maxRecDepth 100000

theorem conv_nilX (W : World) : (convert 22 9 (.slice none 0 0)).run Tryz.prog W = .ok (.string ⟨#[]⟩) W := by kernel_rfl
theorem conv_ownX {W : World} {B n : Nat} {v : Value} {t : ByteArray} (h : W.ownsRow B 5 1 v n (u8s t)) (W' : World) (hb : Below W.heap.size W W') : (convert 22 9 v).run Tryz.prog W' = .ok (.string t) W' := by
  have hl := h.1
  rw [u8s_len, Nat.mul_one] at hl
  rcases h.2 with ⟨rfl, h0⟩ | ⟨g, cap, cur, rfl, hg, hh, h1, h2, h3, h4⟩
  · have : t = ⟨#[]⟩ := by
      apply ext_byt (by show t.size = 0; omega)
      intro i hi
      omega
    rw [this]
    exact conv_nilX W'
  · have hgl : g < W.heap.size := by
      rcases Nat.lt_or_ge g W.heap.size with h | h
      · exact h
      · rw [Array.getElem?_eq_none h] at hh; cases hh
    have hz : Lib.Bytes W' g 0 t := by
      apply bytes_of_byt
      intro i hi
      rw [Nat.zero_add]
      refine (hb.cell (p := ⟨g, i, none⟩) hgl).trans ?_
      have hgt := u8s_get t i hi
      rw [← h4] at hgt
      have hi2 : cur[i]? = some (.int .u8 (byt t i)) := by
        have := List.getElem?_take (l := cur.toList) (i := n * 1) (j := i)
        rw [if_pos (by omega)] at this
        rw [this] at hgt
        simpa using hgt
      simp [World.cell?, hh, hi2]
    have := Lib.run_convert_window (P := Tryz.prog) W' 22 5 9 Tryz.underlying22 Tryz.underlying5 Tryz.underlying9 g 0 t hz 0 n cap (by omega)
    rw [Nat.zero_add] at this
    rw [this, Nat.zero_add, ← hl, ext_whole]
/-- New bytes of a scalar. -/
theorem put_reads {B : Nat} {w : World} {v : Value} {r : Int} (h : NewBytes B w v (putF r)) : ∃ A c, v = .slice A (scB r).size c ∧ Reads w w.heap.size 1 A (scB r).size (u8s (scB r)) := by
  obtain ⟨b, hb, rfl, hh⟩ := h
  have hz : (scB r).size = (putF r).length := by unfold scB; rw [ofInts_size, putF_putI]
  have hu : u8s (scB r) = (putF r).map (Value.int .u8) := by unfold u8s; rw [intsOf_scB, putF_putI]
  rw [hz, hu]
  refine ⟨_, _, rfl, by simp, fun _ => ⟨_, rfl, (Array.getElem?_eq_some_iff.1 hh).1, fun j u hj => ?_⟩⟩
  rw [show (Addr.add ⟨b, 0, none⟩ j) = ⟨b, j, none⟩ by unfold Addr.add; split <;> simp_all, cell_of_row w b j _ _ _ hh]
  simpa using hj
theorem itB_take {l : List It} {i : Nat} (h : i < l.length) : itB (l.take (i + 1)) = itB (l.take i) ++ scB l[i].r := by
  rw [List.take_add_one, List.getElem?_eq_getElem h]
  exact itB_snoc _ _
theorem itB_take_size (l : List It) (i : Nat) : (itB (l.take i)).size ≤ 4 * l.length := by
  have := itB_size (l.take i)
  have h2 : (l.take i).length ≤ l.length := by rw [List.length_take]; omega
  omega
set_option maxHeartbeats 8000000 in
theorem exText_any (A : Option Addr) (n cap : Nat) (l : List It) (w : World) (hir : IR w A n l) (hn : n ≤ 1000000) :
    Calls Tryz.prog 20 #[.slice A n cap] w fun e W' => e = .returned (.string (itB l)) ∧ Below w.heap.size w W' := by
  obtain ⟨i0, hi, hz0, hz1, hz2⟩ := info_parts info_u8
  have HN := hid hir.1
  have HIR := hid hir
  have HTK := hid (fun i (h : i < l.length) => itB_take h)
  have HSZ := hid (fun i => itB_take_size l i)
  have HEND := hid (show itB (l.take l.length) = itB l by rw [List.take_length])
  clear hir
  go_enter Tryz.func20, Tryz.ntmps20
  go_wp2_with fail
  go_loopg [3, 8] n (fun kx s3 s8 wr => ∃ (v : Value) (i : Nat), s3 = v ∧ s8 = .int .i64 i ∧ i ≤ n ∧ n - i ≤ kx ∧ Hid (wr.ownsRow w.heap.size 5 1 v (itB (l.take i)).size (u8s (itB (l.take i)))) ∧ Hid (Below w.heap.size w wr))
  case atStart => exact ⟨_, 0, rfl, rfl, Nat.zero_le _, Nat.le_refl _, World.ownsRow_nil _ _ _ _, Below.refl _ _⟩
  case round =>
    obtain ⟨v, i, rfl, rfl, hi1, hg, HROW, HB⟩ := hrel
    by_cases hlt : i < n
    · have hlt' : (i : Int) < (n : Int) := by omega
      have hil : i < l.length := by rw [← HN.out]; exact hlt
      obtain ⟨g, rfl, hgl, x0, x1, x2, x3, x4, x5, x6⟩ := (HIR.out.below HB.out (Nat.le_refl _)).at_ hil
      have HT := hid (HTK.out i hil)
      have hsz1 := HSZ.out i
      have hsz2 := HSZ.out (i + 1)
      have hl1 := HN.out
      have hp4 := scB_size l[i].r
      generalize l[i] = t at *
      obtain ⟨tr, ta, tz, tf, tc, tn, tp⟩ := t
      simp only at x0 x1 x2 x3 x4 x5 x6 hp4 HT
      have hpos : (itB (l.take i)).size ≤ 4000000 := by omega
      have hp8 : (scB tr).size ≤ 4 := hp4.1
      generalize itB (l.take i) = acc at *
      clear hsz1 hsz2 hp4 hl1
      obtain ⟨c0, cp0, rfl⟩ := owns_slice HROW.out
      have hszr := HB.out.size
      have HB1 := hid (HB.out.alloc hszr (.cells #[.int .i32 tr, .int .i64 ta, .int .i64 tz, .bool tf, .bool tc, .bool tn, .bool tp] 34))
      have HROW1 := hid (HROW.out.alloc (.cells #[.int .i32 tr, .int .i64 ta, .int .i64 tz, .bool tf, .bool tc, .bool tn, .bool tp] 34))
      have hbk := (Blk.new wr 34 #[.int .i32 tr, .int .i64 ta, .int .i64 tz, .bool tf, .bool tc, .bool tn, .bool tp]).cell 0
      simp only [List.getElem?_toArray, List.getElem?_cons_zero, List.getElem?_cons_succ] at hbk
      go_upto_region 5 with fail
      generalize wr.alloc (.cells #[.int .i32 tr, .int .i64 ta, .int .i64 tz, .bool tf, .bool tc, .bool tn, .bool tp] 34) = w1 at *
      clear x0 x1 x2 x3 x4 x5 x6
      go_wp2_with fail
      refine (put_any tr w1).mono ?_
      rintro e w2 ⟨pv, rfl, hnb, hb2⟩
      obtain ⟨PA, pc, rfl, hrd⟩ := put_reads hnb
      have HRD := hid hrd
      have HB2 := hid (HB1.out.trans (hb2.mono HB1.out.size))
      have HROW2 := hid (owns_below HROW1.out hb2)
      have hsz2 := HB2.out.size
      clear hnb hb2 hrd hbk
      go_wp2_with (at_builtin; go_must (refine wpList_append_any _ rfl (.tmp 12) (.tmp 15) 22 rfl w.heap.size 5 i0 (.int .u8 0) 1 1 Tryz.underlying22 hi hz0 hz1 hz2 rfl (by decide) _ acc.size (u8s acc) rfl HROW2.out _ PA (scB tr).size pc (u8s (scB tr)) rfl HRD.out (u8s_one _) (by unfold maxLen; omega) (by omega) (by omega) ?_); intro v6 w6 hown6 hgrow6 _)
      have HB6 := hid (HB2.out.grown hgrow6 hsz2 (fun k e => (HROW2.out.lt k e).1))
      go_roundg (n - (i + 1))
      case measure => omega
      case rel => exact ⟨v6, i + 1, rfl, by go_num, by omega, Nat.le_refl _, by show World.ownsRow _ _ _ _ _ _ _; rw [HT.out, ByteArray.size_append, u8s_append]; exact hown6, HB6.out⟩
    · obtain rfl : i = n := by omega
      have hrow := HROW.out
      rw [HN.out, HEND.out] at hrow
      have hcv := fun W' h => conv_ownX hrow W' h
      have hcv1 := hcv wr (Below.refl _ _)
      clear hlt hrow hcv
      go_wp2_with fail
      go_ret
      exact ⟨rfl, HB.out⟩
end Go.Proofs.YtlfbgaknljdanaaGreatDoor
