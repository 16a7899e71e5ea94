/- The document's Plain: the walk. -/
import Derived.Test.YtpnbkecchfhimaaGreatDoorLpM1
import Derived.Test.YtpnbkecchfhimaaGreatDoorRpF
import Derived.Test.YtpnbkecchfhimaaGreatDoorLiM2
import Derived.BigQuiet
namespace Go.Proofs.YtpnbkecchfhimaaGreatDoor
open Go.RowKit Go.Shelf
open Go.Lib (hid)
set_option linter.unusedVariables false
set_option linter.unusedSimpArgs false
set_option maxRecDepth 100000

def okP (p : S1.Pc) : Bool := p.whole && !(p.r == 27)
/-- Is a text plain? -/
def plainB (s : ByteArray) : Bool := (S1.pcs (intsOf s)).all okP
theorem cln_plain {s : ByteArray} (h : plainB s = true) : Cln (intsOf (escB s)) := by
  have hg : Good (intsOf s) := by
    refine good_of (intsOf s).length 0 (intsOf s) (Nat.le_refl _) (fun x hx => by have := intsOf_rng s x hx; omega) fun p hp => ?_
    have := List.all_eq_true.1 h p hp
    unfold okP at this
    rw [Bool.and_eq_true] at this
    exact ⟨this.1, by have h2 := this.2; simpa using h2⟩
  have hc := cln_esc hg
  have e : intsOf (escB s) = escL (intsOf s) := by
    unfold escB
    have hr := esc_rng s
    refine ints_ext (by rw [ofInts_size]) fun j hj => ?_
    rw [ofInts_byt _ hr j hj, List.getElem?_eq_getElem hj, List.getD_eq_getElem?_getD, List.getElem?_eq_getElem hj]
    rfl
  rw [e]
  exact hc
theorem flat_get3 : ∀ (l : List S1.Pc) (i : Nat) (p : S1.Pc), l[i]? = some p → ∀ j, j < 3 → (l.flatMap S1.refCells)[i * 3 + j]? = (S1.refCells p)[j]?
  | [], _, _, h, _, _ => by simp at h
  | q :: l, 0, p, h, j, hj => by
    have : q = p := by simpa using h
    subst this
    rw [List.flatMap_cons, Nat.zero_mul, Nat.zero_add, List.getElem?_append_left (by simpa [S1.refCells] using hj)]
  | q :: l, i + 1, p, h, j, hj => by
    rw [List.flatMap_cons, List.getElem?_append_right (by simp [S1.refCells]; omega)]
    have e : (i + 1) * 3 + j - (S1.refCells q).length = i * 3 + j := by simp [S1.refCells]; omega
    rw [e]
    exact flat_get3 l i p (by simpa using h) j hj
def allT (l : List S1.Pc) (i : Nat) : Bool := (l.take i).all okP
theorem allT_step {l : List S1.Pc} {i : Nat} (h : i < l.length) : allT l (i + 1) = (allT l i && okP l[i]) := by
  unfold allT
  rw [List.take_add_one, List.getElem?_eq_getElem h, List.all_append]
  simp
theorem all_bad {l : List S1.Pc} {i : Nat} (h : i < l.length) (hb : okP l[i] = false) : l.all okP = false := by
  cases hc : l.all okP with
  | false => rfl
  | true => rw [List.all_eq_true.1 hc _ (List.getElem_mem h)] at hb; cases hb
set_option maxHeartbeats 8000000 in
theorem plain28_any (s : ByteArray) (w : World) (hs : s.size ≤ 1000) : Calls Tryz.prog 30 #[.string s] w fun e w' => e = .returned (.bool (plainB s)) ∧ Below w.heap.size w w' := by
  have HCV := Lib.run_convert_string_bytes (P := Tryz.prog) w 9 22 5 s Tryz.underlying9 Tryz.underlying22 Tryz.underlying5
  have hge := grownCap_ge w s.size 0 5
  have hcm := grownCap_le_maxLen w s.size 0 5 (by unfold maxLen; omega)
  have hwz := Lib.bytesWorld_size w 5 s
  have hba : BA (Lib.bytesWorld w 5 s) (some ⟨w.heap.size, 0, none⟩) s.size (grownCap w s.size 0 5) s := ⟨rfl, hge, by unfold maxLen at hcm; omega, fun _ => ⟨w.heap.size, 0, rfl, by omega, bytesWorld_new w 5 s⟩⟩
  have hsb := sb_of_baL hba
  have hrf := S1.refall_any _ _ (intsOf s) _ hsb.1 (by rw [intsOf_len]; omega)
  rw [intsOf_len] at hrf
  have HRF := hid hrf
  have HB0 := hid (bytesWorld_below w 5 s)
  have HPL := hid (show plainB s = (S1.pcs (intsOf s)).all okP from rfl)
  have hpl := S1.pcs_length (intsOf s)
  rw [intsOf_len] at hpl
  generalize S1.pcs (intsOf s) = l at *
  generalize plainB s = PB at *
  clear hba hsb hrf hge hcm
  go_enter Tryz.func30, Tryz.ntmps30
  go_wp2_with fail
  refine HRF.out.mono ?_
  rintro e w2 ⟨v, rfl, hrow, hb2⟩
  obtain ⟨n, hn⟩ : ∃ n, n = l.length := ⟨_, rfl⟩
  have HN := hid hn
  rw [← hn] at hrow hpl
  obtain ⟨A, c, rfl⟩ := owns_slice hrow
  have HROW := hid hrow
  have HB2 := hid (HB0.out.trans (hb2.mono HB0.out.size))
  clear hrow hb2 hn HCV hwz
  go_wp2_with fail
  go_loopg [4] n (fun kx s4 wr => ∃ i : Nat, s4 = .int .i64 i ∧ i ≤ n ∧ n - i ≤ kx ∧ Hid (allT l i = true) ∧ wr = w2)
  case atStart => exact ⟨0, rfl, Nat.zero_le _, Nat.le_refl _, rfl, rfl⟩
  case round =>
    obtain ⟨i, rfl, hi1, hgm, HAL, rfl⟩ := hrel
    by_cases hlt : i < n
    · have hlt' : (i : Int) < (n : Int) := by omega
      have hil : i < l.length := by rw [← HN.out]; exact hlt
      obtain ⟨k, hk⟩ : ∃ k, n = k + 1 := ⟨n - 1, by omega⟩
      have hr2 := HROW.out
      rw [hk] at hr2
      obtain ⟨g, c2, e⟩ := ownsRow_succ (k := k) hr2
      injection e with e1 _ e3
      subst e1 e3
      have hget := List.getElem?_eq_getElem hil
      have x0 := (HROW.out.cellAt (i * 3) (by omega)).trans ((show _ = _ from flat_get3 l i l[i] hget 0 (by decide)))
      have x2 := (HROW.out.cellAt (i * 3 + 2) (by omega)).trans ((show _ = _ from flat_get3 l i l[i] hget 2 (by decide)))
      have HST := hid (allT_step hil)
      have HBAD := hid (fun h => all_bad hil h)
      generalize l[i] = p at *
      obtain ⟨at_, sz, r, wh⟩ := p
      simp only [S1.refCells, List.getElem?_cons_zero, List.getElem?_cons_succ, Nat.add_zero] at x0 x2
      clear hil hr2 hk hget
      cases wh with
      | false =>
        have hpb : PB = false := by rw [HPL.out]; exact HBAD.out rfl
        have HPB := hid hpb
        clear hpb
        go_wp2_with fail
        go_ret
        exact ⟨by rw [HPB.out]; rfl, HB2.out⟩
      | true =>
        by_cases hr27 : r = 27
        · have hpb : PB = false := by rw [HPL.out]; exact HBAD.out (by unfold okP; simp [hr27])
          have HPB := hid hpb
          have hrb : (r == 27) = true := by simpa using hr27
          clear hpb
          go_wp2_with fail
          go_ret
          exact ⟨by rw [HPB.out]; rfl, HB2.out⟩
        · have hrb : (r == 27) = false := by simpa using hr27
          have HAL2 := hid (show allT l (i + 1) = true by rw [HST.out, HAL.out]; show (true && (true && !(r == 27))) = true; rw [hrb]; rfl)
          go_wp2_with fail
          go_roundg (n - (i + 1))
          case measure => omega
          case rel => exact ⟨i + 1, by go_num, by omega, Nat.le_refl _, HAL2.out, rfl⟩
    · have hlt' : ¬ (i : Int) < (n : Int) := by omega
      have hpb : PB = true := by
        rw [HPL.out]
        have := HAL.out
        unfold allT at this
        rw [show i = l.length by rw [← HN.out]; omega, List.take_length] at this
        exact this
      have HPB := hid hpb
      clear hpb
      go_wp2_with fail
      go_ret
      exact ⟨by rw [HPB.out]; rfl, HB2.out⟩
end Go.Proofs.YtpnbkecchfhimaaGreatDoor
