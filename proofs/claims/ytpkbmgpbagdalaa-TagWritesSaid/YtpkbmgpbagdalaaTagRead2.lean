/- Chapter 18: the mark at a place, of whatever bytes. -/
import Derived.Test.YtpkbmgpbagdalaaTagRead
namespace Go.Proofs.Ytpkbmgpbagdalaa
open Go.RowKit
open Go.Lib (hid)
set_option linter.unusedVariables false

set_option maxRecDepth 100000 in
set_option maxHeartbeats 4000000 in
theorem read_any (w : World) (a : Option Addr) (n cap : Nat) (i m : Int) (s : ByteArray) (hn : n = s.size) (hrow : 0 < n → ∃ b off, a = some ⟨b, off, none⟩ ∧ b < w.heap.size ∧ Lib.Bytes w b off s) (hcap : n ≤ cap) (hc63 : cap ≤ 9223372036854775807)
    (hm : n ≤ 1048576) (hi63 : i ≤ 9223372036854775807) (hml : w.cell? ⟨0, 0, none⟩ = some (.int .i64 m)) :
    Calls Try.prog 9 #[.slice a n cap, .int .i64 i] w fun e w' =>
      ∃ v, e = .returned (.tuple #[(readV s i).1.val v, .bool (readV s i).2]) ∧ Below w.heap.size w w' ∧ w'.ownsRow w.heap.size 38 2 v (readV s i).1.attrs.length (atCells (readV s i).1.attrs) := by
  by_cases h0 : i < 0
  ·
    have HE := hid (show readV s i = (mk0, false) by unfold readV; rw [if_pos (.inl h0)])
    have hb0 := (Below.refl w.heap.size w).alloc (Nat.le_refl _) (.cells tag0 26)
    have hr0 := Blk.new w 26 tag0
    have HF := hid hr0
    have HBF := hid hb0
    clear hb0 hr0 hn hml hrow
    go_enter Try.func9, Try.ntmps9
    go_wp2_with fail
    (try simp only [Exit.inBlock, Exit.then])
    rw [HE.out]
    exact bodyPost_ret (results_row_tmp rfl _ _ w.heap.size _ _ _ _ rfl HF.out Try.underlying26 rfl (by kernel_rfl)) rfl ⟨_, rfl, HBF.out, rfl, .inl ⟨rfl, rfl⟩⟩
  by_cases h1 : (n : Int) - 1 ≤ i
  ·
    have HE := hid (show readV s i = (mk0, false) by unfold readV; rw [if_pos (.inr (.inl (by omega)))])
    have hb0 := (Below.refl w.heap.size w).alloc (Nat.le_refl _) (.cells tag0 26)
    have hr0 := Blk.new w 26 tag0
    have HF := hid hr0
    have HBF := hid hb0
    clear hb0 hr0 hn hml hrow
    go_enter Try.func9, Try.ntmps9
    go_wp2_with fail
    (try simp only [Exit.inBlock, Exit.then])
    rw [HE.out]
    exact bodyPost_ret (results_row_tmp rfl _ _ w.heap.size _ _ _ _ rfl HF.out Try.underlying26 rfl (by kernel_rfl)) rfl ⟨_, rfl, HBF.out, rfl, .inl ⟨rfl, rfl⟩⟩
  obtain ⟨k, rfl⟩ : ∃ k : Nat, i = k := ⟨i.toNat, by omega⟩
  obtain ⟨b, off, rfl, hbB, hz⟩ := hrow (by omega)
  by_cases h60 : byt s k = 60
  · have he : readV s k = headV (s.extract k s.size) := by unfold readV; exact if_neg (fun h => h.elim h0 (fun h => h.elim (fun h => by omega) (fun h => h h60)))
    rw [he]
    exact head_walk b off n cap k m s hn (by omega) hcap hc63 hm w hbB hz hml h60
  · have hcell := bytes_cell hz (i := k) (by omega)
    have b60 : (byt s k != 60) = true := by simpa using h60
    have HE := hid (show readV s k = (mk0, false) by unfold readV; rw [if_pos (.inr (.inr h60))])
    generalize byt s k = c at *
    have hb0 := (Below.refl w.heap.size w).alloc (Nat.le_refl _) (.cells tag0 26)
    have hr0 := Blk.new w 26 tag0
    have HF := hid hr0
    have HBF := hid hb0
    clear hb0 hr0 hn hml hrow
    go_enter Try.func9, Try.ntmps9
    go_wp2_with fail
    (try simp only [Exit.inBlock, Exit.then])
    rw [HE.out]
    exact bodyPost_ret (results_row_tmp rfl _ _ w.heap.size _ _ _ _ rfl HF.out Try.underlying26 rfl (by kernel_rfl)) rfl ⟨_, rfl, HBF.out, rfl, .inl ⟨rfl, rfl⟩⟩
end Go.Proofs.Ytpkbmgpbagdalaa
