/- The walk of the law EntityNames. -/
import Derived.Test.YtddbbgjpfdcjfaaDoorEnN
import Derived.Laws.Cover1
namespace Go.Proofs.YtddbbgjpfdcjfaaDoor.entityNames
open Go.RowKit
open Go.Lib (hid)
set_option linter.unusedVariables false

theorem rising_all : ((List.range 25).all fun j => Op.bytesLess (nameAt j).1.toList (nameAt (j + 1)).1.toList) = true := by kernel_rfl
theorem rising {j : Nat} (h : j + 1 < 26) : Op.bytesLess (nameAt j).1.toList (nameAt (j + 1)).1.toList = true := List.all_eq_true.1 rising_all j (List.mem_range.2 (by omega))
theorem own_name {j : Nat} (h : j < 26) : findN (nameAt j).1 = some (nameAt j).2 := by
  have hl : j < names.length := by rw [names_len]; exact h
  rw [nameAt_is hl]
  exact of_decide_eq_true (List.all_eq_true.1 findN_all _ (List.getElem_mem hl))
theorem any_snoc (s : ByteArray) {i : Nat} (h : i < 26) : ((names.take (i + 1)).any fun x => decide (x.1 = s)) = (((names.take i).any fun x => decide (x.1 = s)) || decide ((nameAt i).1 = s)) := by
  rw [take_names h, List.any_append]
  simp
theorem any_is (s : ByteArray) : (names.any fun x => decide (x.1 = s)) = (findN s).isSome := by
  unfold findN
  rw [Option.isSome_map]
  rw [Bool.eq_iff_iff, List.any_eq_true, List.find?_isSome]

set_option maxRecDepth 100000 in
set_option maxHeartbeats 8000000 in
theorem walk (s : ByteArray) (w : World) (w0 : s.size ≤ maxLen) :
    Calls Tryd.prog 5 #[.string s] w fun e w' => e = .returned (.bool true) ∧ Below w.heap.size w w' := by
  unfold maxLen at w0
  have HAW := hid (awake_any w)
  by_cases hbig : 60 < s.size
  · have hbig' : (60 : Int) < (s.size : Int) := by omega
    go_enter Tryd.func5, Tryd.ntmps5
    go_wp2_with fail
    refine HAW.out.mono ?_
    rintro e w3 ⟨rfl, hb3⟩
    go_wp2_with fail
    go_ret
    exact ⟨rfl, hb3⟩
  have hbig' : ¬ (60 : Int) < (s.size : Int) := by omega
  have hfi := fun W => find_any s W
  have hai := any_is s
  have hres : ∀ j, j < 26 → (nameAt j).1 = s → (findN s).getD 0 = (nameAt j).2 := fun j hj e => by rw [← e, own_name hj]; rfl
  have hr0 : (findN s).isSome = false → (findN s).getD 0 = 0 := fun h => by
    cases hf : findN s
    · rfl
    · rw [hf] at h; cases h
  generalize (findN s).isSome = ok at *
  generalize (findN s).getD 0 = r at *
  have HFI := hid hfi
  have HAI := hid hai
  have HRES := hid hres
  have HR0 := hid hr0
  clear hfi hai hres hr0
  go_enter Tryd.func5, Tryd.ntmps5
  go_wp2_with fail
  refine HAW.out.mono ?_
  rintro e w3 ⟨rfl, hb3⟩
  have HB3 := hid hb3
  clear hb3 HAW
  go_wp2_with fail
  refine (names_any w3).mono ?_
  rintro e w4 ⟨v4, rfl, ho4, hb4⟩
  obtain ⟨g, c, rfl, _, hg4, hc4⟩ := names_at ho4
  have HB4 := hid (HB3.out.trans (hb4.mono HB3.out.size))
  clear ho4 hb4
  go_wp2_with fail
  refine (refnames_any w4).mono ?_
  rintro e w5 ⟨rfl, hr5, hb5⟩
  have hc5 : ∀ j, j < 26 → w5.cell? ⟨g, j, none⟩ = some (.string (nameAt j).1) := fun j hj => (hb5.cell (p := ⟨g, j, none⟩) hg4).trans (hc4 j hj)
  have hg5 := Nat.lt_of_lt_of_le hg4 hb5.size
  have HB5 := hid (HB4.out.trans (hb5.mono HB4.out.size))
  clear hc4 hb5
  go_wp2_with fail
  refine (HFI.out w5).mono ?_
  rintro e w6 ⟨rfl, hb6⟩
  have HB6 := hid (HB5.out.trans (hb6.mono HB5.out.size))
  have hr6 := hr5.below hb6 hr5.lt
  have hcl : ∀ j, j < 26 → w6.cell? ⟨g, j, none⟩ = some (.string (nameAt j).1) ∧ w6.cell? ⟨w4.heap.size, j * 2, none⟩ = some (.string (nameAt j).1) ∧ w6.cell? ⟨w4.heap.size, j * 2 + 1, none⟩ = some (.int .i32 (nameAt j).2) := fun j hj => by
    have := rowsV_get j (by rw [names_len]; exact hj)
    refine ⟨(hb6.cell (p := ⟨g, j, none⟩) hg5).trans (hc5 j hj), ?_⟩
    rw [hr6.cell, hr6.cell, nameAt_is (by rw [names_len]; exact hj)]
    exact this
  have HCL := hid hcl
  clear hcl hc5 hr5 hr6 hb6 hg5 hg4
  generalize w4.heap.size = g2 at *
  go_wp2_with fail
  go_loopg [7, 8] 26 (fun kx s7 s8 wr => ∃ (i N : Nat) (f : Bool), s7 = .bool f ∧ s8 = .int .i64 i ∧ i ≤ 26 ∧ 26 - i ≤ kx ∧ wr = w6.drewN N ∧ Hid (f = (names.take i).any fun x => decide (x.1 = s)))
  case atStart => exact ⟨0, 0, false, rfl, rfl, Nat.zero_le _, by omega, rfl, rfl⟩
  case round =>
    obtain ⟨i, N, f, rfl, rfl, hi, hg, rfl, HFO⟩ := hrel
    by_cases hlt : i < 26
    · have hlt' : (i : Int) < 26 := by omega
      obtain ⟨k1, k2, k3⟩ := HCL.out i hlt
      have hsn := any_snoc s hlt
      rw [← HFO.out] at hsn
      have hrr := HRES.out i hlt
      have hris : ∀ j, i = j + 1 → Op.bytesLess (nameAt j).1.toList (nameAt i).1.toList = true := fun j e => by subst e; exact rising hlt
      have hprev : ∀ j, i = j + 1 → w6.cell? ⟨g, j, none⟩ = some (.string (nameAt j).1) := fun j e => (HCL.out j (by omega)).1
      generalize (nameAt i).1 = x at *
      generalize (nameAt i).2 = z at *
      have hself : (x.toList == x.toList) = true := by simp
      have key : ∀ (m : Nat), (x = s → True) := fun _ _ => trivial
      clear key
      have HSN := hid hsn
      have HRR := hid hrr
      clear hsn hrr
      by_cases hi0 : i = 0
      · subst hi0
        clear hris hprev
        go_wp2_with fail
        go_quiet (fail)
        by_cases hx : x = s
        · have hz := HRR.out hx
          subst hz
          have HSN2 := hid ((HSN.out.trans (show _ = true by rw [decide_eq_true hx, Bool.or_true])).symm)
          have hxe : (x.toList == s.toList) = true := by rw [hx]; simp
          have hxt : x.toList = s.toList := by rw [hx]
          clear HSN HRR
          subst hx
          go_wp2_with fail
          go_roundg (26 - 1)
          case measure => omega
          case rel => exact ⟨1, _, true, rfl, rfl, by omega, Nat.le_refl _, rfl, HSN2⟩
        · have HSN2 := hid ((HSN.out.trans (show _ = f by rw [decide_eq_false hx, Bool.or_false])).symm)
          have hne := str_ne hx
          clear HSN HRR hx
          go_wp2_with fail
          go_roundg (26 - 1)
          case measure => omega
          case rel => exact ⟨1, _, f, rfl, rfl, by omega, Nat.le_refl _, rfl, HSN2⟩
      · obtain ⟨j, hj⟩ : ∃ j, i = j + 1 := ⟨i - 1, by omega⟩
        have hps := hprev j hj
        have hrs := hris j hj
        generalize (nameAt j).1 = y at *
        have hij : (i : Int) - 1 = (j : Int) := by omega
        have hwj : IntKind.i64.wrap (j : Int) = (j : Int) := IntWalk.i64_in _ (by omega)
        have hj26 : (j : Int) < 26 := by omega
        have hip : (0 : Int) < (i : Int) := by omega
        have hdi : decide (0 < i) = true := decide_eq_true (by omega)
        clear hprev hris hj hi0
        go_wp2_with fail
        go_quiet (fail)
        by_cases hx : x = s
        · have hz := HRR.out hx
          subst hz
          have HSN2 := hid ((HSN.out.trans (show _ = true by rw [decide_eq_true hx, Bool.or_true])).symm)
          clear HSN HRR
          subst hx
          go_wp2_with fail
          go_roundg (26 - (i + 1))
          case measure => omega
          case rel => exact ⟨i + 1, _, true, rfl, by go_num, by omega, Nat.le_refl _, rfl, HSN2⟩
        · have HSN2 := hid ((HSN.out.trans (show _ = f by rw [decide_eq_false hx, Bool.or_false])).symm)
          have hne := str_ne hx
          clear HSN HRR hx
          go_wp2_with fail
          go_roundg (26 - (i + 1))
          case measure => omega
          case rel => exact ⟨i + 1, _, f, rfl, by go_num, by omega, Nat.le_refl _, rfl, HSN2⟩
    · have hlt' : ¬ (i : Int) < 26 := by omega
      have hfo := HFO.out
      rw [show i = 26 by omega, show names.take 26 = names by rw [← names_len, List.take_length], HAI.out] at hfo
      subst hfo
      have HJ := hid (show i = 26 by omega)
      clear hi hg hlt
      cases f
      · have hr := HR0.out rfl
        subst hr
        go_wp2_with fail
        go_ret
        exact ⟨rfl, HB6.out.trans (below_drewN _ _ _)⟩
      · go_wp2_with fail
        go_ret
        exact ⟨rfl, HB6.out.trans (below_drewN _ _ _)⟩
end Go.Proofs.YtddbbgjpfdcjfaaDoor.entityNames
