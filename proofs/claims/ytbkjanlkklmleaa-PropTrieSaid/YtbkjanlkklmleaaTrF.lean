/- Chapter 03: a block as a map's key. -/
import Derived.Test.YtbkjanlkklmleaaTrC
import Derived.DeepKeys4
import Derived.Maps.OwnSet
namespace Go.Proofs.Ytbkjanlkklmleaa
open Go.RowKit
open Go.Lib (hid)
set_option linter.unusedVariables false
set_option linter.unusedSimpArgs false
set_option maxRecDepth 100000

theorem tr_laidOut : laidOutB Try.prog = true := by kernel_rfl
theorem tr_rowK : (71 : TypeId) < Try.prog.types.size := of_decide_eq_true (by kernel_rfl)
theorem tr_wide : (match Try.prog.underlying 71 with | some (.array _ _) | some (.struct _) => true | _ => false) = true := by kernel_rfl
theorem tr_law : WideMaps.KeyLaw Try.prog 71 := deep_law_laid tr_laidOut (m := 2) (by omega) tr_rowK (by kernel_rfl) tr_wide
theorem tr_keyed : Maps.Keyed Try.prog 71 := Maps.Keyed.of_law tr_law
theorem tr_und : Try.prog.underlying 71 = some (.array 256 5) := by kernel_rfl
theorem tr_und8 : Try.prog.underlying 5 = some (.int .u8) := by kernel_rfl
theorem tr_cells : Try.prog.cellsOf 71 = 256 := by kernel_rfl
theorem tr_cells8 : Try.prog.cellsOf 5 = 1 := by kernel_rfl
theorem tr_keyT : Try.prog.keyType 71 = true := by kernel_rfl
theorem mapM_some {α β : Type} (g : α → Option β) (h : α → β) : ∀ l : List α, (∀ x ∈ l, g x = some (h x)) → l.mapM g = some (l.map h)
  | [], _ => rfl
  | x :: l, e => by
    rw [List.mapM_cons, e x (List.mem_cons_self ..), mapM_some g h l fun y hy => e y (List.mem_cons_of_mem _ hy)]
    rfl
theorem mkA_at (f : Nat → Int) (i : Nat) (hi : i < 256) : (((mkA f).toList.drop (i * 1)).take 1) = [Value.int .u8 (f i)] := by
  unfold mkA
  simp only [Nat.mul_one]
  rw [List.drop_eq_getElem_cons (by simpa using hi)]
  simp
theorem keyLits8 (d : Nat) (x : Int) (h : 0 ≤ x ∧ x ≤ 255) : Try.prog.keyLits (d + 1) 5 [.int .u8 x] = some [.int .u8 x] := by
  unfold Program.keyLits
  rw [tr_und8]
  have : (Lit.int .u8 x).wf = true := by
    simp only [Lit.wf, IntKind.min, IntKind.max, IntKind.signed, IntKind.bits, Bool.and_eq_true]
    simp
    omega
  simp [this]
/-- What a block reads as, as a key. -/
theorem block_key (f : Nat → Int) (h : ∀ k, k < 256 → 0 ≤ f k ∧ f k ≤ 255) : ∃ kl, keyOf Try.prog 71 (.agg (mkA f)) = some kl := by
  obtain ⟨n, hn⟩ : ∃ n, Try.prog.types.size = n + 1 := ⟨_, (Nat.succ_pred_eq_of_pos (Nat.lt_of_le_of_lt (Nat.zero_le _) tr_rowK)).symm⟩
  have h2 : ((List.range 256).mapM fun i => Try.prog.keyLits (n + 1) 5 (((mkA f).toList.drop (i * 1)).take 1)) = some ((List.range 256).map fun i => [Lit.int .u8 (f i)]) := by
    refine mapM_some _ _ _ fun i hi => ?_
    have hi := List.mem_range.1 hi
    rw [mkA_at f i hi]
    exact keyLits8 n _ (h i hi)
  have h3 : Try.prog.keyLits (Try.prog.types.size + 1) 71 (mkA f).toList = some (((List.range 256).map fun i => [Lit.int .u8 (f i)]).flatten) := by
    rw [hn]
    unfold Program.keyLits
    rw [tr_und]
    simp only [tr_cells, tr_cells8]
    rw [if_pos (by rw [Array.length_toList, mkA_size]), h2]
    rfl
  have hf : (Value.agg (mkA f)).formed Try.prog 71 = true := by
    simp [Value.formed, tr_und, tr_cells, mkA_size]
  have h4 : keyOf Try.prog 71 (.agg (mkA f)) = (some (((List.range 256).map fun i => [Lit.int .u8 (f i)]).flatten)).map fun ls => Lit.string (keyBytes ls) := by
    unfold keyOf
    rw [tr_und]
    simp only [tr_keyT, hf, Bool.and_self, if_true]
    rw [show (Value.agg (mkA f)).cells.toList = (mkA f).toList from rfl, h3]
  exact ⟨_, h4⟩
end Go.Proofs.Ytbkjanlkklmleaa
