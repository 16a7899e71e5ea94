/- The walk of the law PropNames. -/
import Derived.Test.YtfhmeemkmdkhoaaProg
import Derived.Test.YtfhmeemkmdkhoaaNames2
namespace Go.Proofs.Ytfhmeemkmdkhoaa.propNames
open Go.RowKit
open Go.Lib
set_option linter.unusedVariables false

theorem nmOf_out {c : Int} (h : ¬ (0 ≤ c ∧ c < 36)) : nmOf c = ByteArray.empty := by rw [nmOf, if_neg h]

/-- What prop.Number says of a class's own name. -/
theorem number_of_name {c n : Int} {ok : Bool} (h : IsNumber (nmOf c) n ok) : (ok = true ∧ 0 ≤ c ∧ c < 36 ∧ n = c) ∨ (ok = false ∧ n = 0 ∧ nmOf c = ByteArray.empty) := by
  by_cases hc : 0 ≤ c ∧ c < 36
  · rcases h with ⟨_, _, h⟩ | ⟨h1, h2, h3, h4⟩
    · exact absurd rfl (h c hc.1 hc.2)
    · exact .inl ⟨h1, hc.1, hc.2, nm_inj h2 h3 hc.1 hc.2 h4⟩
  · rcases h with ⟨h1, h2, _⟩ | ⟨h1, h2, h3, h4⟩
    · exact .inr ⟨h1, h2, nmOf_out hc⟩
    · rw [nmOf_out hc] at h4
      exact absurd h4 (nm_ne h2 h3)

/-- The law's last part: what it asks of any text. -/
theorem walk (c : Int) (s : ByteArray) (w : World) (w0 : (Lit.int .i64 c).wf = true) (w1 : s.size ≤ maxLen) :
    Calls Try.prog 7 #[.int .i64 c, .string s] w fun e w' => e = .returned (.bool true) ∧ Below w.heap.size w w' := by
  unfold maxLen at w1
  clear w0
  by_cases hbig : 60 < s.size
  · have hbig' : (60 : Int) < (s.size : Int) := by omega
    go_enter Try.func7, Try.ntmps7
    go_wp2_with (go_at_call 15; refine (awake04_any _).mono ?_; rintro e w3 ⟨rfl, hb3⟩)
    go_ret
    exact ⟨rfl, by assumption⟩
  · have hbig' : ¬ (60 : Int) < (s.size : Int) := by omega
    go_enter Try.func7, Try.ntmps7
    go_wp2_with fail
    refine (name_any c _).mono ?_
    rintro e w1 ⟨rfl, hb1⟩
    have HB1 := Lib.hid hb1
    clear hb1
    go_wp2_with fail
    refine (number_any (nmOf c) _).mono ?_
    rintro e w2 ⟨n, ok, rfl, hn, hb2⟩
    have HB2 := Lib.hid (HB1.out.trans (hb2.mono HB1.out.size))
    have hsz2 := HB2.out.size
    clear hb2 HB1
    go_wp2_with fail
    refine (refname_any c _).mono ?_
    rintro e w3 ⟨rfl, hb3⟩
    have HB3 := Lib.hid (HB2.out.trans (hb3.mono hsz2))
    have hsz3 := HB3.out.size
    clear hb3 HB2 hsz2
    rcases number_of_name hn with ⟨rfl, h0, h1, rfl⟩ | ⟨rfl, rfl, he⟩
    case' inl =>
      have hne := nm_ne h0 h1
      obtain ⟨e1, e2⟩ := str_nonempty hne
      clear h0 h1 hne
      generalize nmOf n = nm at *
    case' inr =>
      have e1 : (nmOf c).toList = [] := by rw [he, empty_toList]
      have e2 : (nmOf c).toList.isEmpty = true := by rw [he, empty_toList]; rfl
      clear he
      generalize nmOf c = nm at *
    all_goals
      clear hn
      go_wp2_with fail
      refine (number_any s _).mono ?_
      rintro e w4 ⟨k, is, rfl, hk, hb4⟩
      have HB4 := Lib.hid (HB3.out.trans (hb4.mono hsz3))
      have hsz4 := HB4.out.size
      clear hb4 HB3 hsz3
      rcases hk with ⟨rfl, rfl, hk⟩ | ⟨rfl, hk0, hk1, hk⟩
      · have HK := Lib.hid hk
        clear hk
        go_wp2_with fail
        go_loopw [10] (fun i wr => ∃ j : Nat, i = .int .i64 j ∧ j ≤ 36 ∧ Below w.heap.size w wr) (fun i _ => 36 - (RowKit.intOf i).toNat)
        case atStart => exact ⟨0, rfl, by omega, HB4.out⟩
        case round =>
          obtain ⟨j, rfl, hj, hB⟩ := hrel
          have HB := Lib.hid hB
          have hszr := hB.size
          clear hB
          by_cases hlt : j < 36
          · have hlt' : (j : Int) < 36 := by omega
            have hne := str_ne (HK.out j (by omega) (by omega))
            go_wp2_with fail
            refine (refname_any _ _).mono ?_
            rintro e w5 ⟨rfl, hb5⟩
            have HB5 := Lib.hid (HB.out.trans (hb5.mono hszr))
            clear hb5
            go_wp2_with fail
            go_roundw
            case rel => exact ⟨j + 1, by go_num, by omega, HB5.out⟩
            case measure => simp [RowKit.intOf]; omega
          · obtain rfl : j = 36 := by omega
            go_wp2_with fail
            refine (awake04_any _).mono ?_
            rintro e w5 ⟨rfl, hb5⟩
            have HB5 := Lib.hid (HB.out.trans (hb5.mono hszr))
            clear hb5
            go_wp2_with fail
            go_ret
            exact ⟨rfl, HB5.out⟩
      · have hne := nm_ne hk0 hk1
        rw [hk] at hne
        obtain ⟨f1, f2⟩ := str_nonempty hne
        have HK := Lib.hid hk
        clear hk hne
        go_wp2_with fail
        refine (refname_any _ _).mono ?_
        rw [HK.out]
        rintro e w5 ⟨rfl, hb5⟩
        have HB5 := Lib.hid (HB4.out.trans (hb5.mono hsz4))
        have hsz5 := HB5.out.size
        clear hb5
        go_wp2_with fail
        refine (awake04_any _).mono ?_
        rintro e w6 ⟨rfl, hb6⟩
        have HB6 := Lib.hid (HB5.out.trans (hb6.mono hsz5))
        clear hb6
        go_wp2_with fail
        go_ret
        exact ⟨rfl, HB6.out⟩
end Go.Proofs.Ytfhmeemkmdkhoaa.propNames
