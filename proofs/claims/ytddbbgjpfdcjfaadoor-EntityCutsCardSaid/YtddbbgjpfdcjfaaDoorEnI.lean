/- Chapter 16: how many bytes may follow: the walk. -/
import Derived.Test.YtddbbgjpfdcjfaaDoorEnH
namespace Go.Proofs.YtddbbgjpfdcjfaaDoor
open Go.RowKit
open Go.Shelf
open Go.Lib (hid)
set_option linter.unusedVariables false

theorem runTo_step {p : Int → Bool} {s : ByteArray} {f i : Nat} (h0 : 0 < f) (h1 : i < s.size) (h2 : p (byt s i) = true) : runTo p s f i = runTo p s (f - 1) (i + 1) := by
  obtain ⟨f, rfl⟩ : ∃ g, f = g + 1 := ⟨f - 1, by omega⟩
  rw [runTo, if_pos ⟨h1, h2⟩, Nat.add_sub_cancel]
theorem runTo_halt {p : Int → Bool} {s : ByteArray} {f i : Nat} (h : f = 0 ∨ s.size ≤ i ∨ p (byt s i) = false) : runTo p s f i = i := by
  cases f with
  | zero => rfl
  | succ f =>
    rw [runTo, if_neg]
    rintro ⟨h1, h2⟩
    rcases h with h | h | h
    · omega
    · omega
    · rw [h] at h2; cases h2

set_option maxRecDepth 100000 in
set_option maxHeartbeats 8000000 in
theorem formrun_any (g : Nat) (p : Int → Bool) (skip most base b off n cap : Nat) (s : ByteArray) (w : World) (eg : ∀ args w, (callFunc g args).run Tryd.prog w = .ok (.enter g args) w) (hf : ∀ (W : World) (c : Int), Calls Tryd.prog g #[.int .u8 c] W fun e w' => e = .returned (.bool (p c)) ∧ w' = W)
    (hn : n = s.size) (hcap : n ≤ cap) (hm : n ≤ 1000000) (hmost : most ≤ 100) (hskip : skip ≤ n) (hz : Lib.Bytes w b off s) (hbl : b < w.heap.size) :
    Calls Tryd.prog 20 #[.agg #[.int .i64 skip, .int .i64 most, .func (.func g) #[] #[], .int .i64 base], .slice (some ⟨b, off, none⟩) n cap] w fun e w' => e = .returned (.int .i64 ((runTo p s most skip - skip : Nat) : Int)) ∧ Below w.heap.size w w' := by
  have hr1 := Blk.new w 43 #[.int .i64 skip, .int .i64 most, .func (.func g) #[] #[], .int .i64 base]
  have hb1 : Below w.heap.size w (w.alloc (.cells #[.int .i64 skip, .int .i64 most, .func (.func g) #[] #[], .int .i64 base] 43)) := (Below.refl _ _).alloc (Nat.le_refl _) _
  have hz1 := Bytes.keepAt hz fun k => hb1.cell (p := ⟨b, k, none⟩) hbl
  have k0 := hr1.cell 0
  have k1 := hr1.cell 1
  have k2 := hr1.cell 2
  simp only [List.getElem?_toArray, List.getElem?_cons_zero, List.getElem?_cons_succ] at k0 k1 k2
  have HF := hid hf
  have HZ := hid hz1
  have HN := hid hn
  have HB1 := hid hb1
  clear hf hz hn hr1 hb1 hz1
  go_enter Tryd.func20, Tryd.ntmps20
  go_upto_region 1 with fail
  generalize w.alloc (.cells #[.int .i64 skip, .int .i64 most, .func (.func g) #[] #[], .int .i64 base] 43) = w1 at *
  go_wp2_with fail
  go_loopg [5] most (fun kx s5 wr => ∃ (k N : Nat), s5 = .int .i64 k ∧ k ≤ most ∧ most - k ≤ kx ∧ skip + k ≤ n ∧ wr = w1.drewN N ∧ Hid (runTo p s most skip = runTo p s (most - k) (skip + k)))
  case atStart => exact ⟨0, 0, rfl, Nat.zero_le _, by omega, by omega, rfl, rfl⟩
  case round =>
    obtain ⟨k, N, rfl, hk, hg, hkn, rfl, HQ⟩ := hrel
    obtain ⟨e, he⟩ : ∃ e, e = skip + k := ⟨_, rfl⟩
    have hse : (skip : Int) + (k : Int) = (e : Int) := by omega
    have hsub : e - skip = k := by omega
    have he63 : (e : Int) ≤ 9223372036854775807 := by omega
    have hwe : IntKind.i64.wrap (e : Int) = (e : Int) := IntWalk.i64_in _ (by omega)
    have HE := hid he
    rw [← he] at hkn HQ
    have HSUB := hid hsub
    clear he hsub
    by_cases hen : e < n
    · have hen' : (e : Int) < (n : Int) := by omega
      by_cases hkm : k < most
      · have hkm' : (k : Int) < (most : Int) := by omega
        have hes : e < s.size := by have := HN.out; omega
        have hcell := bytes_cell HZ.out hes
        have hst := runTo_step (p := p) (f := most - k) (by omega) hes
        have hha := runTo_halt (p := p) (s := s) (f := most - k) (i := e)
        have hfc := fun W => HF.out W (byt s e)
        generalize byt s e = c at *
        cases hp : p c <;> rw [hp] at hfc
        · have HR := hid (HQ.out.trans (hha (.inr (.inr hp))))
          have HFC := hid hfc
          clear hst hha hfc hp
          go_wp2_with fail
          go_quiet ((go_at_fn g; go_must (exact (HFC.out _).mono fun e w2 h => ⟨h.1, _, h.2⟩)))
          go_wp2_with fail
          go_ret
          rw [HR.out, HSUB.out]
          exact ⟨rfl, HB1.out.trans ((below_drewN _ _ _).trans (below_drewN _ _ _))⟩
        · have HR := hid (HQ.out.trans (hst hp))
          have HFC := hid hfc
          clear hst hha hfc hp
          go_wp2_with fail
          go_quiet ((go_at_fn g; go_must (exact (HFC.out _).mono fun e w2 h => ⟨h.1, _, h.2⟩)))
          go_wp2_with fail
          go_roundg (most - (k + 1))
          case measure => omega
          case rel => exact ⟨k + 1, _, by go_num, by omega, Nat.le_refl _, by have := HE.out; omega, rfl, by show _ = _; rw [HR.out, show most - k - 1 = most - (k + 1) by omega, show e + 1 = skip + (k + 1) by have := HE.out; omega]⟩
      · have hkm' : ¬ (k : Int) < (most : Int) := by omega
        have HR := hid (HQ.out.trans (runTo_halt (.inl (by omega))))
        go_wp2_with fail
        go_quiet (fail)
        go_wp2_with fail
        go_ret
        rw [HR.out, HSUB.out]
        exact ⟨rfl, HB1.out.trans ((below_drewN _ _ _).trans (below_drewN _ _ _))⟩
    · have hen' : ¬ (e : Int) < (n : Int) := by omega
      have HR := hid (HQ.out.trans (runTo_halt (.inr (.inl (by have := HN.out; omega)))))
      go_wp2_with fail
      go_quiet (fail)
      go_wp2_with fail
      go_ret
      rw [HR.out, HSUB.out]
      exact ⟨rfl, HB1.out.trans ((below_drewN _ _ _).trans (below_drewN _ _ _))⟩
theorem run_any (b off n cap : Nat) (s : ByteArray) (w : World) (hn : n = s.size) (hcap : n ≤ cap) (h0 : 0 < n) (hm : n ≤ 1000000) (hz : Lib.Bytes w b off s) (hbl : b < w.heap.size) :
    Calls Tryd.prog 20 #[.agg (fmV (fmOf s)), .slice (some ⟨b, off, none⟩) n cap] w fun e w' => e = .returned (.int .i64 ((runE s - (fmOf s).skip : Nat) : Int)) ∧ Below w.heap.size w w' := by
  rcases fm_cases s with ⟨hf, k1, k2, k3⟩ | ⟨hf, k1, k2, k3⟩ | ⟨hf, k1⟩
  · rw [fm_eq hf, hf]
    exact formrun_any 33 hexP 3 6 16 b off n cap s w (fun _ _ => by kernel_rfl) (fun W c => hex_any c W) hn hcap hm (by decide) (by omega) hz hbl
  · rw [fm_eq hf, hf]
    exact formrun_any 34 decP 2 7 10 b off n cap s w (fun _ _ => by kernel_rfl) (fun W c => decimal_any c W) hn hcap hm (by decide) (by omega) hz hbl
  · rw [fm_eq hf, hf]
    exact formrun_any 35 letP 1 6 0 b off n cap s w (fun _ _ => by kernel_rfl) (fun W c => letter_any c W) hn hcap hm (by decide) (by omega) hz hbl
end Go.Proofs.YtddbbgjpfdcjfaaDoor
