/- The walk of the law TokenTiles. -/
import Derived.Test.YtaklajbifkljjaaGreatDoorTkLaid
import Derived.Test.YtaklajbifkljjaaGreatDoorTkR
import Derived.BigQuiet
import Derived.Test.YtaklajbifkljjaaGreatDoorOpen
namespace Go.Proofs.YtaklajbifkljjaaGreatDoor.tokenTiles
open Go.RowKit Go.Shelf
open Go.Lib (hid)
set_option linter.unusedVariables false
set_option maxRecDepth 100000

theorem toList_nil {K : ByteArray} (h : 0 < K.size) : ¬ K.toList = [] := fun e => by
  have : K.size = 0 := by
    have := congrArg List.length e
    rw [Lib.toList_data] at this
    exact this
  omega
set_option maxHeartbeats 16000000 in
theorem walk (b : Option Addr) (bLen bCap : Nat) (bD : List Int) (w : World) (w0 : IsRow .u8 w b bLen bCap bD) (hsh : w.ShapedOpen Tryz.prog) (hdb : Hx.Db w) :
    Calls Tryz.prog 8 #[.slice b bLen bCap] w fun e w' => e = .returned (.bool true) ∧ Below w.heap.size w w' := by
  have hmx := mx_of hsh
  obtain ⟨s, hba⟩ := ba_of w0
  have HAW := hid (fun W (h : Below w.heap.size w W) => tkawake_any W (hdb.below h (Nat.le_refl _)) (hmx.below h (Nat.le_refl _)))
  by_cases hbig : 300 < bLen
  · have hbig' : (300 : Int) < (bLen : Int) := by omega
    clear hba w0
    go_enter Tryz.func8, Tryz.ntmps8
    go_wp2_with fail
    refine (HAW.out _ (Below.refl _ _)).mono ?_
    rintro e w2 ⟨rfl, hb2⟩
    have HB2 := hid hb2
    clear hb2
    go_wp2_with fail
    go_ret
    exact ⟨rfl, HB2.out⟩
  have hbig' : ¬ (300 : Int) < (bLen : Int) := by omega
  have HALL := hid (fun W (h : Below w.heap.size w W) => tokAll_any b bLen bCap s W (hba.below h (Nat.le_refl _)) (hmx.below h (Nat.le_refl _)) (by omega))
  have HLS := hid hba.1
  have HT := hid (toks_tiles s)
  clear hba w0 hmx hdb hsh
  go_enter Tryz.func8, Tryz.ntmps8
  go_wp2_with fail
  refine (HAW.out _ (Below.refl _ _)).mono ?_
  rintro e w2 ⟨rfl, hb2⟩
  have HB2 := hid hb2
  clear hb2
  go_wp2_with fail
  refine (HALL.out _ HB2.out).mono ?_
  rintro e w3 ⟨v, rfl, hmd, hb3⟩
  obtain ⟨A, cap, rfl, htr⟩ := TR.of_made hmd
  have HB3 := hid (HB2.out.trans (hb3.mono HB2.out.size))
  have HTR := hid htr
  have hn300 : (toks s).length ≤ 300 := by
    have := toks_len s
    have := HLS.out
    omega
  generalize toks s = l at *
  obtain ⟨n, hn⟩ : ∃ n, n = l.length := ⟨_, rfl⟩
  rw [← hn] at hn300
  rw [← hn] at HTR
  have HN := hid hn
  clear hb3 hmd htr HALL HAW
  rw [← hn]
  clear hn
  go_wp2_with fail
  go_loopg [4, 5] n (fun kx s4 s5 wr => ∃ (i at_ : Nat) (pk : Int), s4 = .int .i64 at_ ∧ s5 = .int .i64 i ∧ wr = w3 ∧ i ≤ n ∧ n - i ≤ kx ∧ Hid (tileP s.size at_ pk (l.drop i)) ∧ Hid ((i = 0 ∧ pk = -1) ∨ ∃ j, ∃ h : j < l.length, i = j + 1 ∧ l[j].kind = pk))
  case atStart => exact ⟨0, 0, -1, rfl, rfl, rfl, Nat.zero_le _, Nat.le_refl _, HT.out, .inl ⟨rfl, rfl⟩⟩
  case round =>
    obtain ⟨i, at_, pk, rfl, rfl, hw, hi, hg, HTP, HPK⟩ := hrel
    obtain rfl : w3 = wr := hw.symm
    by_cases hlt : i < n
    · have hlt' : (i : Int) < (n : Int) := by omega
      have hil : i < l.length := by rw [← HN.out]; exact hlt
      obtain ⟨g, rfl, hgl, x0, x1, x2, x3, x4, x5⟩ := HTR.out.at_ hil
      have htp := HTP.out
      rw [List.drop_eq_getElem_cons hil] at htp
      obtain ⟨q1, q2, q3, q4, q5, q6⟩ := htp
      have HTP2 := hid q6
      have HPK2 := hid (show (i + 1 = 0 ∧ l[i].kind = -1) ∨ ∃ j, ∃ h : j < l.length, i + 1 = j + 1 ∧ l[j].kind = l[i].kind from .inr ⟨i, hil, rfl, rfl⟩)
      have hk7 : l[i].kind = 7 → pk = 2 := q5
      have hk0 : ¬ (l[i].kind = 0 ∧ pk = 0) := q4
      have hkb : 0 ≤ l[i].kind ∧ l[i].kind ≤ 7 := q3
      rw [q1] at x1
      have hprev : i = 0 ∧ pk = -1 ∨ ∃ j, i = j + 1 ∧ w3.cell? ⟨g, j * 6, none⟩ = some (.int .i64 pk) := by
        rcases HPK.out with h | ⟨j, hj, e1, e2⟩
        · exact .inl h
        · obtain ⟨g', e3, _, z0, _⟩ := HTR.out.at_ hj
          injection e3 with e3
          injection e3 with e3 _ _
          subst e3
          rw [e2] at z0
          exact .inr ⟨j, e1, z0⟩
      have HKD := hid (fun W => kind_any l[i].kind W)
      have hkp := toList_nil (kindB_pos hkb.1 hkb.2)
      have HPREV := hid hprev
      clear q1 q3 q4 q5 q6 hprev x3 x4 x5
      generalize l[i].kind = k at *
      generalize l[i].til = til at *
      generalize kindB k = K at *
      have hkp2 : (K.toList == []) = false := by simpa using hkp
      have hq2 : ¬ (til : Int) ≤ (at_ : Int) := by omega
      have hq2b : (at_ : Int) < (til : Int) := by omega
      clear HPK HTP
      rcases HPREV.out with ⟨h0, hp⟩ | ⟨j, hj, z0⟩
      · subst h0
        subst hp
        have hkne : ¬ k = 7 := fun h => absurd (hk7 h) (by decide)
        have hk7b : (k == 7) = false := by simpa using hkne
        rw [Nat.zero_mul] at x0 x1 x2
        rw [Nat.zero_add] at x1 x2
        clear hk7 hk0 hkb hkne q2
        go_wp2_with (go_at_call 26; refine (HKD.out _).mono ?_; rintro e w4 ⟨rfl, hw4⟩; obtain rfl : w3 = w4 := hw4.symm)
        go_roundg (n - (0 + 1))
        case measure => omega
        case rel => exact ⟨0 + 1, til, k, rfl, rfl, rfl, by omega, Nat.le_refl _, HTP2, HPK2⟩
      · subst hj
        have hj1 : ((j + 1 : Nat) : Int) - 1 = (j : Int) := by omega
        have hj2 : (j : Int) < (n : Int) := by omega
        have hj0 : (0 : Int) < ((j + 1 : Nat) : Int) := by omega
        have hjn : ¬ ((j + 1 : Nat) : Int) = 0 := by omega
        have hjnb : (((j + 1 : Nat) : Int) == 0) = false := by simpa using hjn
        obtain ⟨jj, hjj⟩ : ∃ jj : Nat, jj = j + 1 := ⟨_, rfl⟩
        rw [← hjj] at hj1 hj0 hjn hjnb hlt' hlt hg hi HTP2 HPK2 x0 x1 x2 HPREV
        rw [← hjj]
        clear hkb q2
        by_cases hk1 : k = 0
        · subst hk1
          have hpk : ¬ pk = 0 := fun h => hk0 ⟨rfl, h⟩
          have hpkb : (pk == 0) = false := by simpa using hpk
          clear hk7 hk0 hpk hjj
          go_wp2_with (go_at_call 26; refine (HKD.out _).mono ?_; rintro e w4 ⟨rfl, hw4⟩; obtain rfl : w3 = w4 := hw4.symm)
          go_roundg (n - (jj + 1))
          case measure => omega
          case rel => exact ⟨jj + 1, til, 0, rfl, (by go_num), rfl, by omega, Nat.le_refl _, HTP2, HPK2⟩
        · have hk1b : (k == 0) = false := by simpa using hk1
          by_cases hk2 : k = 7
          · subst hk2
            obtain rfl : pk = 2 := hk7 rfl
            clear hk7 hk0 hk1 hjj
            go_wp2_with (go_at_call 26; refine (HKD.out _).mono ?_; rintro e w4 ⟨rfl, hw4⟩; obtain rfl : w3 = w4 := hw4.symm)
            go_roundg (n - (jj + 1))
            case measure => omega
            case rel => exact ⟨jj + 1, til, 7, rfl, (by go_num), rfl, by omega, Nat.le_refl _, HTP2, HPK2⟩
          · have hk2b : (k == 7) = false := by simpa using hk2
            clear hk7 hk0 hk1 hk2 hjj
            go_wp2_with (go_at_call 26; refine (HKD.out _).mono ?_; rintro e w4 ⟨rfl, hw4⟩; obtain rfl : w3 = w4 := hw4.symm)
            go_roundg (n - (jj + 1))
            case measure => omega
            case rel => exact ⟨jj + 1, til, k, rfl, (by go_num), rfl, by omega, Nat.le_refl _, HTP2, HPK2⟩
    · have hlt' : ¬ (i : Int) < (n : Int) := by omega
      have htp := HTP.out
      rw [List.drop_of_length_le (by rw [← HN.out]; omega)] at htp
      have hat : at_ = s.size := htp
      rw [← HLS.out] at hat
      subst hat
      clear hlt hg htp
      go_wp2_with fail
      go_ret
      exact ⟨rfl, HB3.out⟩
end Go.Proofs.YtaklajbifkljjaaGreatDoor.tokenTiles
