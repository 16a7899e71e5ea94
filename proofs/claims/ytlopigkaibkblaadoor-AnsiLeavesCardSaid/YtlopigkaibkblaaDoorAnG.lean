/- Chapter 17: an escape with more behind it: the plain law. -/
import Derived.Test.YtlopigkaibkblaaDoorAnA
namespace Go.Proofs.YtlopigkaibkblaaDoor
set_option linter.unusedVariables false

theorem ext_whole (s : ByteArray) : s.extract 0 s.size = s := by
  apply ByteArray.ext
  simp
theorem readE_head {s : ByteArray} (h0 : 0 < s.size) (h : byt s 0 = 27) : readE s 0 = headE s := by
  unfold readE
  rw [if_pos ⟨by decide, by omega, h⟩]
  exact congrArg headE (ext_whole s)
theorem readE_none {s : ByteArray} (h : ¬ (0 < s.size ∧ byt s 0 = 27)) : readE s 0 = es0 := by
  unfold readE
  exact if_neg fun h2 => h ⟨by omega, h2.2.2⟩
theorem seqN_ge (t : ByteArray) : 2 ≤ seqK t ∧ seqK t ≤ seqN t := ⟨passTo_ge _ _ _, passTo_ge _ _ _⟩
theorem seqE_size (t : ByteArray) : seqN t ≤ (seqE t).size := by
  unfold seqE
  split
  · exact Nat.le_succ _
  · exact Nat.le_refl _
theorem headE_pos (t : ByteArray) : 1 ≤ (headE t).size := by
  have h := seqN_ge t
  have h2 := seqE_size t
  unfold headE
  split
  · exact Nat.le_refl _
  · split
    · omega
    · split
      · exact Nat.le_succ _
      · exact Nat.le_refl _
theorem seq_grows {s s' : ByteArray} (hp : Pre s s') (h2 : 2 ≤ s.size) : ((seqE s).open_ = false → seqE s' = seqE s) ∧ ((seqE s).open_ = true → (seqE s).size = s.size ∧ s.size ≤ (seqE s').size) := by
  have hk := passTo_le (amongB 48 63) s (i := 2) h2
  have hnl : seqN s ≤ s.size := passTo_le (amongB 32 47) s hk
  by_cases hN : seqN s < s.size
  · have hK : seqK s < s.size := Nat.lt_of_le_of_lt (seqN_ge s).2 hN
    have e1 : seqK s' = seqK s := hp.pass_lt h2 hK
    have e2 : seqN s' = seqN s := by
      show passTo (amongB 32 47) s' (seqK s') = _
      rw [e1]
      exact hp.pass_lt (by omega) hN
    have eb := hp.2 _ hN
    have hs := hp.1
    have e3 : seqE s' = seqE s := by
      unfold seqE
      rw [e2, eb]
      by_cases ha : amongB 64 126 (byt s (seqN s)) = true
      · rw [if_pos ⟨by omega, ha⟩, if_pos ⟨hN, ha⟩]
      · rw [if_neg (fun h => ha h.2), if_neg (fun h => ha h.2), show (seqN s == s'.size) = false by simp; omega, show (seqN s == s.size) = false by simp; omega]
    refine ⟨fun _ => e3, fun ho => ?_⟩
    exfalso
    unfold seqE at ho
    split at ho
    · cases ho
    · have : (seqN s == s.size) = false := by simp; omega
      rw [this] at ho
      cases ho
  · have hNe : seqN s = s.size := by omega
    have hE : seqE s = ⟨s.size, false, true, 0⟩ := by
      unfold seqE
      rw [if_neg (fun h => hN h.1), hNe]
      simp
    refine ⟨fun h => (by rw [hE] at h; cases h), fun _ => ⟨by rw [hE], ?_⟩⟩
    have h3 := seqE_size s'
    have h4 := seqN_ge s'
    by_cases hK : seqK s < s.size
    · have e1 : seqK s' = seqK s := hp.pass_lt h2 hK
      have : s.size ≤ seqN s' := by
        show s.size ≤ passTo (amongB 32 47) s' (seqK s')
        rw [e1]
        exact hp.pass_end (by omega) hN
      omega
    · have : s.size ≤ seqK s' := hp.pass_end h2 hK
      omega
theorem head_grows {s s' : ByteArray} (hp : Pre s s') (h1 : 1 ≤ s.size) : ((headE s).open_ = false → headE s' = headE s) ∧ ((headE s).open_ = true → (headE s).size = s.size ∧ s.size ≤ (headE s').size) := by
  have hs := hp.1
  by_cases hone : s.size = 1
  · have hE : headE s = ⟨1, false, true, 0⟩ := by unfold headE; rw [if_pos hone]
    exact ⟨fun h => (by rw [hE] at h; cases h), fun _ => ⟨by rw [hE]; exact hone.symm, by have := headE_pos s'; omega⟩⟩
  · have hb := hp.2 1 (by omega)
    have e1 : headE s = if byt s 1 = 91 then seqE s else if amongB 64 95 (byt s 1) = true then ⟨2, true, false, byt s 1⟩ else ⟨1, false, false, 0⟩ := by unfold headE; rw [if_neg hone]
    have e2 : headE s' = if byt s 1 = 91 then seqE s' else if amongB 64 95 (byt s 1) = true then ⟨2, true, false, byt s 1⟩ else ⟨1, false, false, 0⟩ := by unfold headE; rw [if_neg (by omega), hb]
    by_cases h91 : byt s 1 = 91
    · rw [if_pos h91] at e1 e2
      rw [e1, e2]
      exact seq_grows hp (by omega)
    · rw [if_neg h91] at e1 e2
      rw [e1, e2]
      by_cases ha : amongB 64 95 (byt s 1) = true
      · rw [if_pos ha]; exact ⟨fun _ => rfl, fun h => by cases h⟩
      · rw [if_neg ha]; exact ⟨fun _ => rfl, fun h => by cases h⟩
theorem esc_grows {s s' : ByteArray} (hp : Pre s s') :
    ((readE s 0).size = 0 ∧ (s.size = 0 ∨ (readE s' 0).size = 0)) ∨
    ((readE s 0).size ≠ 0 ∧ (((readE s 0).open_ = false ∧ readE s' 0 = readE s 0) ∨ ((readE s 0).open_ = true ∧ (readE s 0).size = s.size ∧ s.size ≤ (readE s' 0).size))) := by
  have hs := hp.1
  by_cases h : 0 < s.size ∧ byt s 0 = 27
  · right
    rw [readE_head h.1 h.2, readE_head (by omega) (by rw [hp.2 0 h.1]; exact h.2)]
    refine ⟨by have := headE_pos s; omega, ?_⟩
    have hg := head_grows hp h.1
    cases ho : (headE s).open_
    · exact .inl ⟨rfl, hg.1 ho⟩
    · exact .inr ⟨rfl, hg.2 ho⟩
  · left
    rw [readE_none h]
    refine ⟨rfl, ?_⟩
    by_cases h0 : s.size = 0
    · exact .inl h0
    · right
      rw [readE_none (fun h2 => h ⟨by omega, by have := h2.2; rwa [hp.2 0 (by omega)] at this⟩)]
      rfl
end Go.Proofs.YtlopigkaibkblaaDoor
