/- THE PLAIN LAW of joining: behind bytes that are valid any others are read as if they stood alone. No Go in sight. -/
import Derived.Test.YtalgldnnbjlokaaPcs
import Derived.Test.YtalgldnnbjlokaaScalRef
namespace Go.Proofs.Ytalgldnnbjlokaa

theorem thereGo_app : ∀ (t b : List Int) (m : Nat) (lo hi : Int), thereGo t m lo hi = m → thereGo (t ++ b) m lo hi = m
  | t, b, 0, lo, hi, _ => there_0 _ _ _
  | [], b, m + 1, lo, hi, h => by simp [thereGo] at h
  | d :: t, b, m + 1, lo, hi, h => by
    rw [List.cons_append]
    by_cases hd : lo ≤ d ∧ d ≤ hi
    · rw [there_ok hd] at h ⊢
      rw [thereGo_app t b m 128 191 (by omega)]
    · rw [there_bad hd] at h; omega

/-- What is read whole is read so, whatever stands behind it. -/
theorem readF_app (l b : List Int) (h : (readF l).2.2 = true) : readF (l ++ b) = readF l := by
  cases l with
  | nil => simp [readF] at h
  | cons c t =>
    by_cases hn : needN c = 0
    · rw [readF_no hn] at h; cases h
    · by_cases hk : ((thereGo t ((needN c).toNat - 1) (needLo c) (needHi c) + 1 : Nat) : Int) < needN c
      · rw [readF_cut hn hk] at h; cases h
      · have hle := thereGo_le t ((needN c).toNat - 1) (needLo c) (needHi c)
        have hfull : thereGo t ((needN c).toNat - 1) (needLo c) (needHi c) = (needN c).toNat - 1 := by omega
        have happ := thereGo_app t b _ _ _ hfull
        rw [List.cons_append, readF_whole hn hk, readF_whole hn (by rw [happ]; omega)]
        rw [← List.cons_append, List.take_append_of_le_length (by simp; omega)]

theorem pcsGo_r : ∀ (f i j : Nat) (l : List Int), (pcsGo f i l).map (·.r) = (pcsGo f j l).map (·.r)
  | 0, _, _, _ => rfl
  | f + 1, i, j, [] => rfl
  | f + 1, i, j, c :: t => by
    show _ :: _ = _ :: _
    rw [pcsGo_r f _ (j + (readF (c :: t)).2.1) _]

theorem pcsFrom_app : ∀ (n : Nat) (a b : List Int) (j : Nat), a.length - j = n → j ≤ a.length → (∀ p ∈ pcsFrom a j, p.whole = true) →
    (pcsFrom (a ++ b) j).map (·.r) = (pcsFrom a j).map (·.r) ++ (pcs b).map (·.r)
  | n, a, b, j, hn, hj, hw => by
    by_cases h : j < a.length
    · have hs := readF_drop_size h
      have hst := pcsFrom_step h
      have hw0 := hw _ (by rw [hst]; exact List.mem_cons_self)
      have hd : (a ++ b).drop j = a.drop j ++ b := by rw [List.drop_append_of_le_length hj]
      rw [pcsFrom_step (by simp; omega), hd, readF_app _ _ hw0, hst]
      rw [List.map_cons, List.map_cons, List.cons_append]
      rw [pcsFrom_app (a.length - (j + (readF (a.drop j)).2.1)) a b _ rfl hs.2 (fun p hp => hw p (by rw [hst]; exact List.mem_cons_of_mem _ hp))]
    · obtain rfl : j = a.length := by omega
      rw [pcsFrom_end (Nat.le_refl _)]
      unfold pcsFrom pcs
      rw [List.drop_append_of_le_length (Nat.le_refl _), List.drop_length]
      simp only [List.length_append, Nat.add_sub_cancel_left, List.nil_append, List.map_nil]
      exact pcsGo_r _ _ _ _
  termination_by n => n

theorem pcs_join (a b : List Int) (h : (pcs a).all (·.whole) = true) : (pcs (a ++ b)).map (·.r) = (pcs a).map (·.r) ++ (pcs b).map (·.r) := by
  rw [← pcsFrom_zero, ← pcsFrom_zero a]
  rw [List.all_eq_true] at h
  exact pcsFrom_app _ a b 0 rfl (Nat.zero_le _) h
end Go.Proofs.Ytalgldnnbjlokaa
