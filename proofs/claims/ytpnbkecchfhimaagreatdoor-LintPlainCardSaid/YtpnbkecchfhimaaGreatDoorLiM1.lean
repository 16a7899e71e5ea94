/- Texts of LiA, LiB, LiC, LiD, LiE, LiF, LiG, LiH, LiP, LiQ, LiM, merged by a program of mine. -/
import Derived.Test.YtpnbkecchfhimaaGreatDoorTkG
import Derived.Test.YtpnbkecchfhimaaGreatDoorFdR
import Derived.BigQuiet
import Derived.Test.YtpnbkecchfhimaaGreatDoorElM1
import Derived.Test.YtpnbkecchfhimaaGreatDoorS1V
import Derived.Test.YtpnbkecchfhimaaGreatDoorTkM0
import Derived.Test.YtpnbkecchfhimaaGreatDoorFdM1
import Derived.Maps.GroupsBeside
import Derived.Maps.RangeWalk

/- out of LiA -/
namespace Go.Proofs.YtpnbkecchfhimaaGreatDoor
open Go.RowKit Go.Shelf
open Go.Lib (hid)
set_option linter.unusedVariables false
set_option maxRecDepth 100000

def ln0 : ByteArray := ⟨#[117, 110, 99, 108, 111, 115, 101, 100]⟩
def ln1 : ByteArray := ⟨#[98, 114, 111, 107, 101, 110]⟩
def ln2 : ByteArray := ⟨#[98, 97, 114, 101]⟩
def ln3 : ByteArray := ⟨#[99, 117, 116]⟩
def ln4 : ByteArray := ⟨#[115, 116, 114, 97, 121]⟩
def ln5 : ByteArray := ⟨#[111, 112, 101, 110]⟩
def nmL (k : Int) : ByteArray := if k = 0 then ln0 else if k = 1 then ln1 else if k = 2 then ln2 else if k = 3 then ln3 else if k = 4 then ln4 else if k = 5 then ln5 else noB
theorem lidx0 (w : World) : (Instr.index 94 (.agg #[.string ⟨#[117, 110, 99, 108, 111, 115, 101, 100]⟩, .string ⟨#[98, 114, 111, 107, 101, 110]⟩, .string ⟨#[98, 97, 114, 101]⟩, .string ⟨#[99, 117, 116]⟩, .string ⟨#[115, 116, 114, 97, 121]⟩, .string ⟨#[111, 112, 101, 110]⟩]) (.int .i64 0)).run Tryz.prog w = .ok (.string ⟨#[117, 110, 99, 108, 111, 115, 101, 100]⟩) w := by kernel_rfl
theorem lidx1 (w : World) : (Instr.index 94 (.agg #[.string ⟨#[117, 110, 99, 108, 111, 115, 101, 100]⟩, .string ⟨#[98, 114, 111, 107, 101, 110]⟩, .string ⟨#[98, 97, 114, 101]⟩, .string ⟨#[99, 117, 116]⟩, .string ⟨#[115, 116, 114, 97, 121]⟩, .string ⟨#[111, 112, 101, 110]⟩]) (.int .i64 1)).run Tryz.prog w = .ok (.string ⟨#[98, 114, 111, 107, 101, 110]⟩) w := by kernel_rfl
theorem lidx2 (w : World) : (Instr.index 94 (.agg #[.string ⟨#[117, 110, 99, 108, 111, 115, 101, 100]⟩, .string ⟨#[98, 114, 111, 107, 101, 110]⟩, .string ⟨#[98, 97, 114, 101]⟩, .string ⟨#[99, 117, 116]⟩, .string ⟨#[115, 116, 114, 97, 121]⟩, .string ⟨#[111, 112, 101, 110]⟩]) (.int .i64 2)).run Tryz.prog w = .ok (.string ⟨#[98, 97, 114, 101]⟩) w := by kernel_rfl
theorem lidx3 (w : World) : (Instr.index 94 (.agg #[.string ⟨#[117, 110, 99, 108, 111, 115, 101, 100]⟩, .string ⟨#[98, 114, 111, 107, 101, 110]⟩, .string ⟨#[98, 97, 114, 101]⟩, .string ⟨#[99, 117, 116]⟩, .string ⟨#[115, 116, 114, 97, 121]⟩, .string ⟨#[111, 112, 101, 110]⟩]) (.int .i64 3)).run Tryz.prog w = .ok (.string ⟨#[99, 117, 116]⟩) w := by kernel_rfl
theorem lidx4 (w : World) : (Instr.index 94 (.agg #[.string ⟨#[117, 110, 99, 108, 111, 115, 101, 100]⟩, .string ⟨#[98, 114, 111, 107, 101, 110]⟩, .string ⟨#[98, 97, 114, 101]⟩, .string ⟨#[99, 117, 116]⟩, .string ⟨#[115, 116, 114, 97, 121]⟩, .string ⟨#[111, 112, 101, 110]⟩]) (.int .i64 4)).run Tryz.prog w = .ok (.string ⟨#[115, 116, 114, 97, 121]⟩) w := by kernel_rfl
theorem lidx5 (w : World) : (Instr.index 94 (.agg #[.string ⟨#[117, 110, 99, 108, 111, 115, 101, 100]⟩, .string ⟨#[98, 114, 111, 107, 101, 110]⟩, .string ⟨#[98, 97, 114, 101]⟩, .string ⟨#[99, 117, 116]⟩, .string ⟨#[115, 116, 114, 97, 121]⟩, .string ⟨#[111, 112, 101, 110]⟩]) (.int .i64 5)).run Tryz.prog w = .ok (.string ⟨#[111, 112, 101, 110]⟩) w := by kernel_rfl
theorem nmL_none {k : Int} (h : k < 0 ∨ 5 < k) : nmL k = noB := by
  unfold nmL
  rw [if_neg (show ¬ k = 0 by omega)]
  rw [if_neg (show ¬ k = 1 by omega)]
  rw [if_neg (show ¬ k = 2 by omega)]
  rw [if_neg (show ¬ k = 3 by omega)]
  rw [if_neg (show ¬ k = 4 by omega)]
  rw [if_neg (show ¬ k = 5 by omega)]
theorem nmL_size (k : Int) : (nmL k).size ≤ 8 := by
  unfold nmL
  repeat' split
  all_goals decide
theorem nmL_pos {k : Int} (h0 : 0 ≤ k) (h5 : k ≤ 5) : 0 < (nmL k).size := by
  rcases (by omega : k = 0 ∨ k = 1 ∨ k = 2 ∨ k = 3 ∨ k = 4 ∨ k = 5) with rfl | rfl | rfl | rfl | rfl | rfl <;> decide
set_option maxHeartbeats 1000000 in
theorem lintName_any (k : Int) (w : World) : Calls Tryz.prog 24 #[.int .i64 k] w fun e w' => e = .returned (.string (nmL k)) ∧ w' = w := by
  by_cases h : k < 0 ∨ 5 < k
  · rw [nmL_none h]
    by_cases h0 : k < 0
    · clear h
      go_enter Tryz.func24, Tryz.ntmps24
      go_wp2_with fail
      go_ret
      exact ⟨rfl, rfl⟩
    · have h8 : 6 ≤ k := by omega
      clear h
      go_enter Tryz.func24, Tryz.ntmps24
      go_wp2_with fail
      go_ret
      exact ⟨rfl, rfl⟩
  · rcases (by omega : k = 0 ∨ k = 1 ∨ k = 2 ∨ k = 3 ∨ k = 4 ∨ k = 5) with rfl | rfl | rfl | rfl | rfl | rfl
    · clear h
      have ix := lidx0
      go_enter Tryz.func24, Tryz.ntmps24
      go_wp2_with fail
      go_ret
      exact ⟨rfl, rfl⟩
    · clear h
      have ix := lidx1
      go_enter Tryz.func24, Tryz.ntmps24
      go_wp2_with fail
      go_ret
      exact ⟨rfl, rfl⟩
    · clear h
      have ix := lidx2
      go_enter Tryz.func24, Tryz.ntmps24
      go_wp2_with fail
      go_ret
      exact ⟨rfl, rfl⟩
    · clear h
      have ix := lidx3
      go_enter Tryz.func24, Tryz.ntmps24
      go_wp2_with fail
      go_ret
      exact ⟨rfl, rfl⟩
    · clear h
      have ix := lidx4
      go_enter Tryz.func24, Tryz.ntmps24
      go_wp2_with fail
      go_ret
      exact ⟨rfl, rfl⟩
    · clear h
      have ix := lidx5
      go_enter Tryz.func24, Tryz.ntmps24
      go_wp2_with fail
      go_ret
      exact ⟨rfl, rfl⟩
set_option maxHeartbeats 1000000 in
theorem ref30Name_any (k : Int) (w : World) : Calls Tryz.prog 25 #[.int .i64 k] w fun e w' => e = .returned (.string (nmL k)) ∧ Below w.heap.size w w' := by
  by_cases h : k < 0 ∨ 5 < k
  · rw [nmL_none h]
    by_cases h0 : k < 0
    · clear h
      go_enter Tryz.func25, Tryz.ntmps25
      go_wp2_with fail
      go_ret
      exact ⟨rfl, Below.refl _ _⟩
    · have h8 : 5 < k := by omega
      clear h
      go_enter Tryz.func25, Tryz.ntmps25
      go_wp2_with fail
      go_ret
      exact ⟨rfl, Below.refl _ _⟩
  · rcases (by omega : k = 0 ∨ k = 1 ∨ k = 2 ∨ k = 3 ∨ k = 4 ∨ k = 5) with rfl | rfl | rfl | rfl | rfl | rfl
    · clear h
      go_enter Tryz.func25, Tryz.ntmps25
      go_wp2_with fail
      go_ret
      exact ⟨rfl, (Below.refl _ _).alloc (Nat.le_refl _) _⟩
    · clear h
      go_enter Tryz.func25, Tryz.ntmps25
      go_wp2_with fail
      go_ret
      exact ⟨rfl, (Below.refl _ _).alloc (Nat.le_refl _) _⟩
    · clear h
      go_enter Tryz.func25, Tryz.ntmps25
      go_wp2_with fail
      go_ret
      exact ⟨rfl, (Below.refl _ _).alloc (Nat.le_refl _) _⟩
    · clear h
      go_enter Tryz.func25, Tryz.ntmps25
      go_wp2_with fail
      go_ret
      exact ⟨rfl, (Below.refl _ _).alloc (Nat.le_refl _) _⟩
    · clear h
      go_enter Tryz.func25, Tryz.ntmps25
      go_wp2_with fail
      go_ret
      exact ⟨rfl, (Below.refl _ _).alloc (Nat.le_refl _) _⟩
    · clear h
      go_enter Tryz.func25, Tryz.ntmps25
      go_wp2_with fail
      go_ret
      exact ⟨rfl, (Below.refl _ _).alloc (Nat.le_refl _) _⟩
end Go.Proofs.YtpnbkecchfhimaaGreatDoor

/- out of LiB -/
namespace Go.Proofs.YtpnbkecchfhimaaGreatDoor
open Go.RowKit Go.Shelf
open Go.Lib (hid)
set_option linter.unusedVariables false
set_option maxRecDepth 100000

def dcd (k : Nat) : UInt8 := UInt8.ofNat (48 + k)
def dz (u : Nat) : List UInt8 := if u = 0 then [] else Lib.decDigits u
theorem dz_step {u : Nat} (h : u ≠ 0) : dz u = dz (u / 10) ++ [dcd (u % 10)] := by
  unfold dz
  rw [if_neg h]
  by_cases h10 : u < 10
  · rw [if_pos (by omega), Lib.decDigits, dif_pos h10, Nat.mod_eq_of_lt h10]; rfl
  · rw [if_neg (by omega), Lib.decDigits, dif_neg h10]; rfl
def dd (u : Nat) (acc : List UInt8) : List UInt8 := if acc = [] then Lib.decDigits u else dz u ++ acc
theorem dd_next {u : Nat} {acc : List UInt8} (h : u ≠ 0 ∨ acc = []) : dd u acc = dd (u / 10) (dcd (u % 10) :: acc) := by
  have hr : dd (u / 10) (dcd (u % 10) :: acc) = dz (u / 10) ++ dcd (u % 10) :: acc := by unfold dd; rw [if_neg (by simp)]
  rw [hr]
  unfold dd
  by_cases ha : acc = []
  · rw [if_pos ha, ha]
    by_cases h10 : u < 10
    · rw [Lib.decDigits, dif_pos h10, Nat.mod_eq_of_lt h10, show u / 10 = 0 by omega]; rfl
    · unfold dz
      rw [if_neg (by omega), Lib.decDigits, dif_neg h10]; rfl
  · rw [if_neg ha, dz_step (h.resolve_right ha)]
    simp
theorem dd_stop {acc : List UInt8} (h : acc ≠ []) : dd 0 acc = acc := by
  unfold dd
  rw [if_neg h]
  rfl
theorem dd_len (u : Nat) (acc : List UInt8) : acc.length ≤ (dd u acc).length := by
  unfold dd
  split
  · rename_i h
    rw [h]
    exact Nat.zero_le _
  · rw [List.length_append]
    omega
theorem dcd_at : ∀ k : Fin 10, (⟨#[48, 49, 50, 51, 52, 53, 54, 55, 56, 57]⟩ : ByteArray).extract k.val (k.val + 1) = Hx.mkB [dcd k.val] := by decide
theorem decDigits_len21 (u : Nat) (h : u ≤ 9223372036854775808) : (Lib.decDigits u).length ≤ 20 := by
  rw [Lib.decDigits_length]
  exact Lib.nDigits_le20 u (by omega)
set_option maxHeartbeats 4000000 in
theorem num30_any (k : Nat) (hk : k ≤ 9223372036854775807) (w : World) : Calls Tryz.prog 26 #[.int .i64 k] w fun e w' => e = .returned (.string (itoaB k)) ∧ w' = w := by
  have HS := hid (show itoaB k = Hx.mkB (dd k []) by unfold itoaB dd; rw [Lib.itoa_nonneg, if_pos rfl]; rfl)
  have HL := hid (show (dd k []).length ≤ 20 by unfold dd; rw [if_pos rfl]; exact decDigits_len21 k (by omega))
  have HK := hid hk
  generalize itoaB k = R at *
  generalize hD : dd k [] = D at *
  have HD := hid hD
  clear hk hD
  go_enter Tryz.func26, Tryz.ntmps26
  go_wp2_with fail
  go_loopg [0, 3] (k + 1) (fun kx s0 s3 wr => ∃ (u : Nat) (acc : List UInt8) (x : ByteArray), s0 = .int .i64 u ∧ s3 = .string x ∧ wr = w ∧ u + (1 - acc.length) ≤ kx ∧ Hid (x.size = acc.length) ∧ x.size ≤ 20 ∧ Hid (x = Hx.mkB acc) ∧ Hid (u ≤ k) ∧ Hid (D = dd u acc))
  case atStart => exact ⟨k, [], ⟨#[]⟩, rfl, rfl, rfl, Nat.le_refl _, rfl, Nat.zero_le _, rfl, Nat.le_refl _, HD.out.symm⟩
  case round =>
    obtain ⟨u, acc, x, rfl, rfl, hw, hku, HXS, hx20, HX, HUK, HZ⟩ := hrel
    obtain rfl : w = wr := hw.symm
    by_cases hd : u ≠ 0 ∨ acc = []
    · have HN := hid (HZ.out.trans (dd_next hd))
      have hl : ¬ (1 + x.size > 9223372036854775807) := by omega
      have hl2 : ¬ (9223372036854775807 < 1 + x.size) := by omega
      have hb : (⟨#[48, 49, 50, 51, 52, 53, 54, 55, 56, 57]⟩ : ByteArray).extract (u % 10) (u % 10 + 1) = Hx.mkB [dcd (u % 10)] := dcd_at ⟨u % 10, Nat.mod_lt _ (by decide)⟩
      have HBD := hid hb
      have hns : 1 + x.size ≤ 20 := by
        have h1 := dd_len (u / 10) (dcd (u % 10) :: acc)
        rw [← HN.out, List.length_cons] at h1
        have := HL.out
        have := HXS.out
        omega
      have HNS := hid hns
      have HKU := hid hku
      have HD2 := hid hd
      clear hb hku hns
      by_cases hu : u = 0
      · subst hu
        have ha : acc = [] := hd.resolve_left (fun h => h rfl)
        subst ha
        obtain rfl : x = ⟨#[]⟩ := HX.out
        clear hd
        go_wp2_with fail
        go_roundg (0 / 10 + (1 - ([dcd (0 % 10)] : List UInt8).length))
        case measure => have := HKU.out; simp; simp at this; omega
        case rel =>
          exact ⟨0 / 10, [dcd (0 % 10)], _, rfl, rfl, rfl, Nat.le_refl _, rfl, by decide, rfl, Nat.zero_le _, HN.out⟩
      · have hu0 : (0 : Int) < (u : Int) := by omega
        have HU := hid hu
        clear hd hu
        go_wp2_with fail
        go_roundg (u / 10 + (1 - (dcd (u % 10) :: acc).length))
        case measure => have := HKU.out; have := HU.out; rw [List.length_cons]; omega
        case rel =>
          rw [HBD.out]
          exact ⟨u / 10, dcd (u % 10) :: acc, Hx.mkB [dcd (u % 10)] ++ x, (by congr 1; have := HUK.out; have := HK.out; unfold RowKit.wrap64; omega), rfl, rfl, Nat.le_refl _, (by show _ = _; rw [ByteArray.size_append, HXS.out]; show 1 + acc.length = _; rw [List.length_cons]; omega), (by rw [ByteArray.size_append]; exact HNS.out), (by rw [HX.out]; exact Hx.mkB_append _ _), (by show _ ≤ _; have := HUK.out; omega), HN⟩
    · have hu : u = 0 := by
        rcases Nat.eq_zero_or_pos u with h | h
        · exact h
        · exact absurd (.inl (by omega)) hd
      subst hu
      have hac : acc ≠ [] := fun h => hd (.inr h)
      have hx0 : ¬ x.toList = [] := fun e => hac (by
        have h1 : x.size = 0 := by
          have := congrArg List.length e
          rw [Lib.toList_data] at this
          exact this
        rw [HXS.out] at h1
        exact List.eq_nil_of_length_eq_zero h1)
      have hx1 : (x.toList == []) = false := by simpa using hx0
      have HE := hid (show R = x by rw [HS.out, HX.out, HZ.out, dd_stop hac])
      clear hd hku hac
      go_wp2_with fail
      go_ret
      rw [HE.out]
      exact ⟨rfl, rfl⟩
end Go.Proofs.YtpnbkecchfhimaaGreatDoor

/- out of LiC -/
namespace Go.Proofs.YtpnbkecchfhimaaGreatDoor
open Go.RowKit Go.Shelf
open Go.Lib (hid)
set_option linter.unusedVariables false
set_option linter.unusedSimpArgs false
set_option maxRecDepth 100000

/-- A finding. -/
structure Fg where
  kind : Int
  at_ : Int
def fgC (f : Fg) : Array Value := #[.int .i64 f.kind, .int .i64 f.at_]
def fgCells (l : List Fg) : List Value := l.flatMap fun f => (fgC f).toList
theorem fgCells_len (l : List Fg) : (fgCells l).length = l.length * 2 := by
  induction l with
  | nil => rfl
  | cons f l ih =>
    show ((fgC f).toList ++ fgCells l).length = _
    rw [List.length_append, ih, List.length_cons]
    show 2 + _ = _
    omega
def FR (w : World) (A : Option Addr) (n : Nat) (l : List Fg) : Prop :=
  n = l.length ∧ (0 < n → ∃ g, A = some ⟨g, 0, none⟩ ∧ g < w.heap.size ∧ ∀ (j : Nat) (h : j < l.length) (f : Nat), f < 2 → w.cell? ⟨g, j * 2 + f, none⟩ = (fgC l[j])[f]?)
theorem FR.below {w w' : World} {A : Option Addr} {n B : Nat} {l : List Fg} (h : FR w A n l) (hb : Below B w w') (hB : w.heap.size ≤ B) : FR w' A n l :=
  ⟨h.1, fun hn => by
    obtain ⟨g, e, hg, hz⟩ := h.2 hn
    exact ⟨g, e, Nat.lt_of_lt_of_le hg hb.size, fun j hj f hf => (hb.cell (p := ⟨g, j * 2 + f, none⟩) (by show g < B; omega)).trans (hz j hj f hf)⟩⟩
theorem fgCells_get : ∀ (l : List Fg) (j : Nat) (h : j < l.length) (f : Nat), f < 2 → (fgCells l)[j * 2 + f]? = (fgC l[j])[f]?
  | t :: l, 0, h, f, hf => by
    have e : fgCells (t :: l) = (fgC t).toList ++ fgCells l := rfl
    rw [e, Nat.zero_mul, Nat.zero_add, List.getElem?_append_left (by show f < 2; exact hf)]
    simp
  | t :: l, j + 1, h, f, hf => by
    have e : fgCells (t :: l) = (fgC t).toList ++ fgCells l := rfl
    have h6 : (fgC t).toList.length = 2 := rfl
    rw [e, List.getElem?_append_right (by rw [h6]; omega), h6, show (j + 1) * 2 + f - 2 = j * 2 + f by omega]
    exact fgCells_get l j (by simpa using h) f hf
theorem FR.of_own {n₀ : Nat} {W : World} {v : Value} {n : Nat} {e : TypeId} {l : List Fg} (h : W.ownsRow n₀ e 2 v n (fgCells l)) : ∃ A cap, v = .slice A n cap ∧ FR W A n l := by
  have hlen : n = l.length := by
    have h1 := h.1
    rw [fgCells_len] at h1
    omega
  subst hlen
  obtain ⟨A, cap, rfl⟩ := owns_slice h
  refine ⟨A, cap, rfl, rfl, fun hn => ?_⟩
  obtain ⟨k, hk⟩ : ∃ k, l.length = k + 1 := ⟨l.length - 1, by omega⟩
  have h' := h
  rw [hk] at h'
  obtain ⟨g, cap', e⟩ := ownsRow_succ (k := k) h'
  injection e with e1 _ e3
  subst e1
  refine ⟨g, rfl, (h.lt g rfl).2, fun j hj f hf => ?_⟩
  rw [← fgCells_get l j hj f hf]
  exact h.cellAt (j * 2 + f) (by omega)
/-- A finding's cells, at its place. -/
theorem FR.at_ {w : World} {A : Option Addr} {n : Nat} {l : List Fg} (h : FR w A n l) {j : Nat} (hj : j < l.length) : ∃ g, A = some ⟨g, 0, none⟩ ∧ g < w.heap.size ∧ w.cell? ⟨g, j * 2, none⟩ = some (.int .i64 l[j].kind) ∧ w.cell? ⟨g, j * 2 + 1, none⟩ = some (.int .i64 l[j].at_) := by
  have h1 := h.1
  obtain ⟨g, e, hg, hz⟩ := h.2 (by omega)
  exact ⟨g, e, hg, hz j hj 0 (by decide), hz j hj 1 (by decide)⟩
set_option maxHeartbeats 4000000 in
theorem isF_any (A1 A2 : Option Addr) (n c1 c2 : Nat) (l : List Fg) (w : World) (h1 : FR w A1 n l) (h2 : FR w A2 n l) (hn : n ≤ 100000) :
    Calls Tryz.prog 28 #[.slice A1 n c1, .slice A2 n c2] w fun e w' => e = .returned (.bool true) ∧ Below w.heap.size w w' := by
  have HL := hid h1.1
  have H1 := hid h1
  have H2 := hid h2
  clear h1 h2
  go_enter Tryz.func28, Tryz.ntmps28
  go_wp2_with fail
  go_loopg [5] n (fun kx s5 wr => ∃ j : Nat, s5 = .int .i64 j ∧ j ≤ n ∧ n - j ≤ kx ∧ Hid (Below w.heap.size w wr))
  case atStart => exact ⟨0, rfl, Nat.zero_le _, Nat.le_refl _, Below.refl _ _⟩
  case round =>
    obtain ⟨j, rfl, hj1, hg, HB⟩ := hrel
    by_cases hjn : j < n
    · have hjn' : (j : Int) < (n : Int) := by omega
      have hjl : j < l.length := by rw [← HL.out]; exact hjn
      obtain ⟨g1, rfl, hg1, x0, x1⟩ := (H1.out.below HB.out (Nat.le_refl _)).at_ hjl
      obtain ⟨g2, rfl, hg2, y0, y1⟩ := (H2.out.below HB.out (Nat.le_refl _)).at_ hjl
      generalize l[j] = f at *
      obtain ⟨fk, fa⟩ := f
      simp only at x0 x1 y0 y1
      clear hjl
      go_upto_region 6 with fail
      go_quiet (fail)
      have HB2 := hid (HB.out.trans ((below_drewN wr.heap.size wr nq).mono HB.out.size))
      go_wp2_with fail
      go_roundg (n - (j + 1))
      case measure => omega
      case rel => exact ⟨j + 1, by go_num, by omega, Nat.le_refl _, HB2.out⟩
    · have hjn' : ¬ (j : Int) < (n : Int) := by omega
      clear hjn hg
      go_wp2_with fail
      go_ret
      exact ⟨rfl, HB.out⟩
end Go.Proofs.YtpnbkecchfhimaaGreatDoor

/- out of LiD -/
namespace Go.Proofs.YtpnbkecchfhimaaGreatDoor
open Go.RowKit Go.Shelf
open Go.Lib (hid)
set_option linter.unusedVariables false
set_option linter.unusedSimpArgs false
set_option maxRecDepth 100000

/-- A row of numbers. -/
def KI (w : World) (A : Option Addr) (n : Nat) (l : List Int) : Prop :=
  n = l.length ∧ (0 < n → ∃ b off, A = some ⟨b, off, none⟩ ∧ b < w.heap.size ∧ ∀ (j : Nat) (h : j < l.length), w.cell? ⟨b, off + j, none⟩ = some (.int .i64 l[j]))
theorem KI.below {w w' : World} {A : Option Addr} {n B : Nat} {l : List Int} (h : KI w A n l) (hb : Below B w w') (hB : w.heap.size ≤ B) : KI w' A n l :=
  ⟨h.1, fun hn => by
    obtain ⟨g, o, e, hg, hz⟩ := h.2 hn
    exact ⟨g, o, e, Nat.lt_of_lt_of_le hg hb.size, fun j hj => (hb.cell (p := ⟨g, o + j, none⟩) (by show g < B; omega)).trans (hz j hj)⟩⟩
theorem any_at {l : List Int} {c : Int} {i : Nat} (hi : i < l.length) (h : l[i] = c) : decide (c ∈ l) = true := decide_eq_true (h ▸ List.getElem_mem hi)
theorem any_no {l : List Int} {c : Int} (h : ∀ (j : Nat) (hj : j < l.length), l[j] ≠ c) : decide (c ∈ l) = false := decide_eq_false fun hm => by
  obtain ⟨j, hj, e⟩ := List.mem_iff_getElem.1 hm
  exact h j hj e
set_option maxHeartbeats 2000000 in
theorem indexI_any (A : Option Addr) (n cap : Nat) (l : List Int) (c : Int) (w : World) (hk : KI w A n l) (hn : n ≤ 100000) :
    Calls Tryz.prog 80 #[.slice A n cap, .int .i64 c] w fun e w' => (∃ j : Int, e = .returned (.int .i64 j) ∧ decide (0 ≤ j) = decide (c ∈ l)) ∧ w' = w := by
  have HK := hid hk
  have HN := hid hk.1
  clear hk
  go_enter Tryz.func80, Tryz.ntmps80
  go_wp2_with fail
  go_loopg [8] n (fun kx s8 wr => ∃ i : Nat, s8 = .int .i64 i ∧ i ≤ n ∧ n - i ≤ kx ∧ wr = w ∧ Hid (∀ (j : Nat) (hj : j < l.length), j < i → l[j] ≠ c))
  case atStart => exact ⟨0, rfl, Nat.zero_le _, Nat.le_refl _, rfl, fun j _ hj => absurd hj (Nat.not_lt_zero _)⟩
  case round =>
    obtain ⟨i, rfl, hi, hg, hw, HA⟩ := hrel
    obtain rfl : w = wr := hw.symm
    by_cases hlt : i < n
    · have hlt' : (i : Int) < (n : Int) := by omega
      have hil : i < l.length := by rw [← HN.out]; exact hlt
      obtain ⟨b, off, rfl, hb, hz⟩ := HK.out.2 (by omega)
      have c0 := hz i hil
      clear hz
      by_cases he : l[i] = c
      · have HT := hid (any_at hil he)
        rw [he] at c0
        have hee : (c == c) = true := by simp
        clear he hil
        go_wp2_with fail
        go_ret
        exact ⟨⟨i, rfl, ⟨fun _ => of_decide_eq_true HT.out, fun _ => by omega⟩⟩, rfl⟩
      · have HA2 := hid (show ∀ (j : Nat) (hj : j < l.length), j < i + 1 → l[j] ≠ c from fun j hj hji => by
          rcases Nat.lt_or_ge j i with h | h
          · exact HA.out j hj h
          · obtain rfl : j = i := by omega
            exact he)
        generalize l[i] = z at *
        have hee : (c == z) = false := by simpa using fun h => he h.symm
        clear he hil
        go_wp2_with fail
        go_roundg (n - (i + 1))
        case measure => omega
        case rel => exact ⟨i + 1, by go_num, by omega, Nat.le_refl _, rfl, HA2⟩
    · have hlt' : ¬ (i : Int) < (n : Int) := by omega
      have HF := hid (any_no (l := l) (c := c) fun j hj => HA.out j hj (by have := HN.out; omega))
      clear hi hg hlt
      go_wp2_with fail
      go_ret
      exact ⟨⟨-1, rfl, ⟨fun h => absurd h (by decide), fun h => absurd h (of_decide_eq_false HF.out)⟩⟩, rfl⟩
theorem containsI_any (A : Option Addr) (n cap : Nat) (l : List Int) (c : Int) (w : World) (hk : KI w A n l) (hn : n ≤ 100000) :
    Calls Tryz.prog 51 #[.slice A n cap, .int .i64 c] w fun e w' => e = .returned (.bool (decide (c ∈ l))) ∧ w' = w := by
  have H := hid (indexI_any A n cap l c w hk hn)
  clear hk
  go_enter Tryz.func51, Tryz.ntmps51
  go_wp2_with fail
  refine H.out.mono ?_
  rintro e w2 ⟨⟨j, rfl, hj⟩, hw⟩
  obtain rfl : w = w2 := hw.symm
  have HJ := hid hj
  clear hj
  go_wp2_with fail
  go_ret
  exact ⟨ret_bool HJ.out, rfl⟩
/-- A finding's text. -/
def lpB (k a : Int) : ByteArray := if k < 0 ∨ 5 < k then noB else (nmL k ++ spB) ++ itoaB a
set_option maxHeartbeats 2000000 in
theorem lintPrint_any (k a : Int) (w : World) (ha : (itoaB a).size ≤ 21)
    (hI : ∀ W, Below w.heap.size w W → Calls Tryz.prog 50 #[.int .i64 a] W (fun e w' => e = .returned (.string (itoaB a)) ∧ Below W.heap.size W w')) :
    Calls Tryz.prog 27 #[.agg #[.int .i64 k, .int .i64 a]] w fun e w' => e = .returned (.string (lpB k a)) ∧ Below w.heap.size w w' := by
  have HKD := hid (fun W => lintName_any k W)
  have HI := hid hI
  have hbz := (Below.refl w.heap.size w).alloc (Nat.le_refl _) (.cells #[.int .i64 k, .int .i64 a] 48)
  have hbk := Blk.new w 48 #[.int .i64 k, .int .i64 a]
  have x0 := hbk.cell 0
  have x1 := hbk.cell 1
  simp only [List.getElem?_toArray, List.getElem?_cons_zero, List.getElem?_cons_succ] at x0 x1
  have HBL := hid hbz
  clear hI hbz hbk
  by_cases hk : k < 0 ∨ 5 < k
  · have HP := hid (show lpB k a = noB from if_pos hk)
    rw [nmL_none hk] at HKD
    clear hk
    go_enter Tryz.func27, Tryz.ntmps27
    go_wp2_with fail
    generalize w.alloc (.cells #[.int .i64 k, .int .i64 a] 48) = w1 at *
    refine (HKD.out _).mono ?_
    rintro e w2 ⟨rfl, hw2⟩
    obtain rfl : w1 = w2 := hw2.symm
    unfold noB
    go_wp2_with fail
    go_ret
    rw [HP.out]
    exact ⟨rfl, HBL.out⟩
  · have hkp := nmL_pos (k := k) (by omega) (by omega)
    have hks := nmL_size k
    have HP := hid (show lpB k a = (nmL k ++ ⟨#[32]⟩) ++ itoaB a from if_neg hk)
    generalize itoaB a = A at *
    generalize nmL k = K at *
    have hne : (K.toList == []) = false := by
      rw [beq_eq_false_iff_ne]
      intro e
      have := congrArg List.length e
      rw [Lib.toList_data] at this
      have h2 : K.size = 0 := this
      omega
    have hne1 : ¬ K.toList = [] := by simpa using hne
    have hs1 : ¬ (K.size + 1 > 9223372036854775807) := by omega
    have hs1' : ¬ (9223372036854775807 < K.size + 1) := by omega
    have hs2 : ¬ (K.size + 1 + A.size > 9223372036854775807) := by omega
    have hs2' : ¬ (9223372036854775807 < K.size + 1 + A.size) := by omega
    clear hk
    go_enter Tryz.func27, Tryz.ntmps27
    go_wp2_with fail
    generalize w.alloc (.cells #[.int .i64 k, .int .i64 a] 48) = w1 at *
    refine (HKD.out _).mono ?_
    rintro e w2 ⟨rfl, hw2⟩
    obtain rfl : w1 = w2 := hw2.symm
    have HI1 := hid (HI.out w1 HBL.out)
    go_wp2_with fail
    refine HI1.out.mono ?_
    rintro e w3 ⟨rfl, hb3⟩
    have HB3 := hid (HBL.out.trans (hb3.mono HBL.out.size))
    clear hb3
    go_wp2_with fail
    go_ret
    rw [HP.out]
    exact ⟨rfl, HB3.out⟩
end Go.Proofs.YtpnbkecchfhimaaGreatDoor

/- out of LiE -/
namespace Go.Proofs.YtpnbkecchfhimaaGreatDoor
open Go.RowKit Go.Shelf
open Go.Lib (hid)
set_option linter.unusedVariables false
set_option linter.unusedSimpArgs false
set_option maxRecDepth 100000

theorem fgCells_snoc (l : List Fg) (f : Fg) : fgCells (l ++ [f]) = fgCells l ++ (fgC f).toList := by simp [fgCells, List.flatMap_append]
theorem info_fg : (Tryz.prog.info? 48).map (fun i => (i.zero, i.size, i.bytes)) = some (some (.agg #[.int .i64 0, .int .i64 0]), 2, 16) := by kernel_rfl
def onlyF (ks : List Int) (l : List Fg) : List Fg := l.filter fun f => decide (f.kind ∈ ks)
theorem onlyF_step {ks : List Int} {l : List Fg} {i : Nat} (h : i < l.length) : onlyF ks (l.take (i + 1)) = if decide (l[i].kind ∈ ks) then onlyF ks (l.take i) ++ [l[i]] else onlyF ks (l.take i) := by
  unfold onlyF
  rw [List.take_add_one, List.getElem?_eq_getElem h, List.filter_append]
  show _ ++ List.filter _ [l[i]] = _
  by_cases hc : l[i].kind ∈ ks
  · rw [if_pos (decide_eq_true hc)]
    congr 1
    simp [hc]
  · rw [if_neg (by simpa using hc)]
    simp [hc]
set_option maxHeartbeats 4000000 in
theorem only_any (A : Option Addr) (n cap : Nat) (l : List Fg) (K : Option Addr) (kn kc : Nat) (ks : List Int) (w : World) (hf : FR w A n l) (hk : KI w K kn ks) (hn : n ≤ 100000) (hkn : kn ≤ 100000) :
    Calls Tryz.prog 29 #[.slice A n cap, .slice K kn kc] w fun e w' => ∃ v, e = .returned v ∧ w'.ownsRow w.heap.size 48 2 v (onlyF ks l).length (fgCells (onlyF ks l)) ∧ Below w.heap.size w w' := by
  obtain ⟨i0, hi, hz0, hz1, hz2⟩ := info_parts info_fg
  have HF := hid hf
  have HN := hid hf.1
  have HCO := hid (fun (W : World) (h : Below w.heap.size w W) (c : Int) => containsI_any K kn kc ks c W (hk.below h (Nat.le_refl _)) hkn)
  clear hf hk
  go_enter Tryz.func29, Tryz.ntmps29
  go_wp2_with fail
  go_loopg [5, 10] n (fun kx s5 s10 wr => ∃ (v : Value) (i m : Nat), s5 = v ∧ s10 = .int .i64 i ∧ i ≤ n ∧ n - i ≤ kx ∧ m ≤ i ∧ Hid (m = (onlyF ks (l.take i)).length) ∧ Hid (wr.ownsRow w.heap.size 48 2 v m (fgCells (onlyF ks (l.take i)))) ∧ Hid (Below w.heap.size w wr))
  case atStart => exact ⟨_, 0, 0, rfl, rfl, Nat.zero_le _, Nat.le_refl _, Nat.le_refl _, rfl, World.ownsRow_nil _ _ _ _, Below.refl _ _⟩
  case round =>
    obtain ⟨v, i, m, rfl, rfl, hi1, hg, hmi, HM, HROW, HB⟩ := hrel
    by_cases hlt : i < n
    · have hlt' : (i : Int) < (n : Int) := by omega
      have hil : i < l.length := by rw [← HN.out]; exact hlt
      obtain ⟨g, rfl, hgl, x0, x1⟩ := (HF.out.below HB.out (Nat.le_refl _)).at_ hil
      have hst := onlyF_step (ks := ks) hil
      generalize l[i] = f at *
      obtain ⟨fk, fa⟩ := f
      simp only at x0 x1 hst
      have hszr := HB.out.size
      have q1 := Blk.new wr 48 #[.int .i64 fk, .int .i64 fa]
      have HB1 := hid (HB.out.alloc hszr (.cells #[.int .i64 fk, .int .i64 fa] 48))
      have HROW1 := hid (HROW.out.alloc (.cells #[.int .i64 fk, .int .i64 fa] 48))
      have y0 := q1.cell 0
      have y1 := q1.cell 1
      simp only [List.getElem?_toArray, List.getElem?_cons_zero, List.getElem?_cons_succ] at y0 y1
      obtain ⟨Av, cv, rfl⟩ := owns_slice HROW.out
      clear q1 hil
      by_cases hc : decide (fk ∈ ks) = true
      · rw [if_pos hc] at hst
        have HST := hid hst
        have HC1 := hid (HCO.out _ HB1.out fk)
        rw [hc] at HC1
        clear hst hc
        go_upto_region 5 with fail
        generalize wr.alloc (.cells #[.int .i64 fk, .int .i64 fa] 48) = w1 at *
        go_wp2_with fail
        refine HC1.out.mono ?_
        rintro e w2 ⟨rfl, hw⟩
        have hw2 := hw.symm
        clear hw
        subst hw2
        have hs1 := HB1.out.size
        go_wp2_with (at_builtin; go_must (refine wpList_append_any _ rfl (.tmp 18) (.tmp 20) 45 rfl w.heap.size 48 i0 (.agg #[.int .i64 0, .int .i64 0]) 2 16 Tryz.underlying45 hi hz0 hz1 hz2 rfl (by decide) _ m _ rfl (HROW1.out.alloc _) _ _ 1 1 [.int .i64 fk, .int .i64 fa] rfl (reads_blk2 (Blk.new w1 _ _)) (by simp [Value.oneCell']) (by unfold maxLen; omega) (by omega) (by simp; omega) ?_); intro v7 w7 ho7 hg7 _)
        have HB7 := hid ((HB1.out.alloc hs1 _).grown hg7 (by simp; omega) (fun j e => (HROW1.out.lt j e).1))
        go_roundg (n - (i + 1))
        case measure => omega
        case rel => exact ⟨v7, i + 1, m + 1, rfl, by go_num, by omega, Nat.le_refl _, by omega, (by show _ = _; rw [HST.out, List.length_append, ← HM.out]; rfl), (by show World.ownsRow _ _ _ _ _ _ _; rw [HST.out, fgCells_snoc]; exact ho7), HB7⟩
      · have hcf : decide (fk ∈ ks) = false := by simpa using hc
        rw [if_neg hc] at hst
        have HST := hid hst
        have HC1 := hid (HCO.out _ HB1.out fk)
        rw [hcf] at HC1
        clear hst hc hcf
        go_upto_region 5 with fail
        generalize wr.alloc (.cells #[.int .i64 fk, .int .i64 fa] 48) = w1 at *
        go_wp2_with fail
        refine HC1.out.mono ?_
        rintro e w2 ⟨rfl, hw⟩
        have hw2 := hw.symm
        clear hw
        subst hw2
        go_wp2_with fail
        go_roundg (n - (i + 1))
        case measure => omega
        case rel => exact ⟨_, i + 1, m, rfl, by go_num, by omega, Nat.le_refl _, by omega, (by show _ = _; rw [HST.out]; exact HM.out), (by show World.ownsRow _ _ _ _ _ _ _; rw [HST.out]; exact HROW1.out), HB1⟩
    · obtain rfl : i = n := by omega
      have hlt' : ¬ (i : Int) < (i : Int) := by omega
      have hfull : l.take i = l := by rw [HN.out, List.take_length]
      have HR := HROW.out
      have hm := HM.out
      rw [hfull] at HR hm
      have HR2 := hid HR
      subst hm
      clear HR hfull HM HROW
      go_wp2_with fail
      go_ret
      exact ⟨_, rfl, HR2.out, HB.out⟩
end Go.Proofs.YtpnbkecchfhimaaGreatDoor

/- out of LiF -/
namespace Go.Proofs.YtpnbkecchfhimaaGreatDoor
open Go.RowKit Go.Shelf
open Go.Lib (hid)
set_option linter.unusedVariables false
set_option linter.unusedSimpArgs false
set_option maxRecDepth 100000

/-- One finding's place less another's. -/
theorem findCmp_any (k1 a1 k2 a2 : Int) (w : World) (h1 : 0 ≤ a1) (h1' : a1 ≤ 1000000) (h2 : 0 ≤ a2) (h2' : a2 ≤ 1000000) :
    Calls Tryz.prog 49 #[.agg #[.int .i64 k1, .int .i64 a1], .agg #[.int .i64 k2, .int .i64 a2]] w fun e w' => e = .returned (.int .i64 (a1 - a2)) ∧ w' = (w.alloc (.cells #[.int .i64 k1, .int .i64 a1] 48)).alloc (.cells #[.int .i64 k2, .int .i64 a2] 48) := by
  have q1 := (Blk.new w 48 #[.int .i64 k1, .int .i64 a1]).alloc (.cells #[.int .i64 k2, .int .i64 a2] 48)
  have q2 := Blk.new (w.alloc (.cells #[.int .i64 k1, .int .i64 a1] 48)) 48 #[.int .i64 k2, .int .i64 a2]
  rw [World.size_alloc] at q2
  have x1 := q1.cell 1
  have y1 := q2.cell 1
  simp only [List.getElem?_toArray, List.getElem?_cons_zero, List.getElem?_cons_succ] at x1 y1
  have hwr : IntKind.i64.wrap (a1 - a2) = a1 - a2 := IntWalk.i64_in _ (by omega)
  clear q1 q2
  go_enter Tryz.func49, Tryz.ntmps49
  go_wp2_with fail
  go_ret
  exact ⟨rfl, rfl⟩
end Go.Proofs.YtpnbkecchfhimaaGreatDoor

/- out of LiG -/
namespace Go.Proofs.YtpnbkecchfhimaaGreatDoor
open Go.RowKit Go.Shelf
open Go.Lib (hid)
set_option linter.unusedVariables false
set_option linter.unusedSimpArgs false
set_option maxRecDepth 100000

/-- The finder at block g: its bytes, its map, what it has found: a row of its own from B on. -/
def FnAt (W : World) (g B : Nat) (bv mv ov : Value) (l : List Fg) : Prop :=
  Blk W g 87 #[bv, mv, ov] ∧ W.ownsRow B 48 2 ov l.length (fgCells l)
/-- All old blocks but two stand. -/
structure But2 (w w' : World) (g : Nat) (o : Option Nat) : Prop where
  os : w'.os = w.os
  tape : w'.tape = w.tape
  output : w'.output = w.output
  size : w.heap.size ≤ w'.heap.size
  block : ∀ k, k < w.heap.size → k ≠ g → o ≠ some k → w'.heap[k]? = w.heap[k]?
theorem But2.trans {w w1 w2 : World} {g : Nat} {o o1 : Option Nat} (h : But2 w w1 g o) (h2 : But2 w1 w2 g o1) (ho : ∀ j, o1 = some j → o = some j ∨ w.heap.size ≤ j) : But2 w w2 g o :=
  ⟨h2.os.trans h.os, h2.tape.trans h.tape, h2.output.trans h.output, Nat.le_trans h.size h2.size, fun k hk hg hne => (h2.block k (Nat.lt_of_lt_of_le hk h.size) hg (fun e => by
    rcases ho k e with h3 | h3
    · exact hne h3
    · omega)).trans (h.block k hk hg hne)⟩
theorem But2.of_below {w w' : World} (h : Below w.heap.size w w') (g : Nat) (o : Option Nat) : But2 w w' g o :=
  ⟨h.os, h.tape, h.output, h.size, fun k hk _ _ => h.block k hk⟩
/-- The finder has come from one world to another: what it has found is told anew; but its block and its row's nothing old has turned. -/
def FnTo (w w' : World) (g B : Nat) (bv mv ov : Value) (l : List Fg) : Prop :=
  ∃ ov', FnAt w' g B bv mv ov' l ∧ But2 w w' g ov.ownBlock ∧ ∀ j, ov'.ownBlock = some j → ov.ownBlock = some j ∨ w.heap.size ≤ j
set_option maxHeartbeats 2000000 in
theorem found_any (g B : Nat) (bv mv ov : Value) (l : List Fg) (k a : Int) (w : World) (hf : FnAt w g B bv mv ov l) (hg : g < B) (hB : B ≤ w.heap.size) (hl : l.length ≤ 100000) :
    Calls Tryz.prog 47 #[.pointer (some ⟨g, 0, none⟩), .int .i64 k, .int .i64 a] w fun e w' => e = .returned (.tuple #[]) ∧ FnTo w w' g B bv mv ov (l ++ [⟨k, a⟩]) := by
  obtain ⟨i0, hi, hz0, hz1, hz2⟩ := info_parts info_fg
  obtain ⟨hq, hrow⟩ := hf
  obtain ⟨A, c, rfl⟩ := owns_slice hrow
  have HQ := hid hq
  have HROW := hid hrow
  have y2 := hq.cell 2
  simp only [List.getElem?_toArray, List.getElem?_cons_zero, List.getElem?_cons_succ] at y2
  have hne : ∀ j, (Value.slice A l.length c).ownBlock = some j → some g ≠ some j := fun j e e2 => by
    have := (hrow.lt j e).1
    injection e2 with e2
    omega
  have HNE := hid hne
  obtain ⟨n, hn⟩ : ∃ n, n = l.length := ⟨_, rfl⟩
  have HN := hid hn
  rw [← hn] at y2 HROW HNE ⊢
  have hn2 : n ≤ 100000 := by omega
  clear hq hrow hne hl hn
  go_enter Tryz.func47, Tryz.ntmps47
  go_wp2_with (at_builtin; go_must (refine wpList_append_any _ rfl (.tmp 10) (.tmp 14) 45 rfl B 48 i0 (.agg #[.int .i64 0, .int .i64 0]) 2 16 Tryz.underlying45 hi hz0 hz1 hz2 rfl (by decide) _ n _ rfl (HROW.out.alloc _) _ _ 1 1 [.int .i64 k, .int .i64 a] rfl (reads_blk2 (Blk.new w _ _)) (by simp [Value.oneCell']) (by unfold maxLen; omega) (by omega) (by simp; omega) ?_); intro v7 w7 ho7 hg7 hv7; obtain ⟨A7, c7, rfl⟩ := owns_slice ho7; have HO7 := hid ho7; have HG7 := hid hg7; have HV7 := hid hv7; have hq7 := (HQ.out.alloc (.cells #[.int .i64 k, .int .i64 a] 48)).grown hg7 (fun e => HNE.out _ e.symm rfl); have z2 := hq7.cell 2; have zf := hq7.frozen; simp only [List.getElem?_toArray, List.getElem?_cons_zero, List.getElem?_cons_succ] at z2; have HQ7 := hid hq7; clear hq7 ho7 hg7 hv7)
  go_end0
  have G1 := World.grownBy_alloc w (.cells #[.int .i64 k, .int .i64 a] 48) (Value.slice A n c).ownBlock
  have G2 : (w.alloc (.cells #[.int .i64 k, .int .i64 a] 48)).grownBy w7 (Value.slice A n c).ownBlock := HG7.out
  have G3 := grown_set w7 g 2 (.slice A7 (n + 1) c7)
  have HVV : (Value.slice A7 (n + 1) c7).ownBlock = (Value.slice A n c).ownBlock ∨ (Value.slice A7 (n + 1) c7).ownBlock = some (w.alloc (.cells #[.int .i64 k, .int .i64 a] 48)).heap.size := HV7.out
  refine ⟨rfl, .slice A7 (n + 1) c7, ⟨?_, ?_⟩, ?_, ?_⟩
  · have h := HQ7.out.set_ 2 (.slice A7 (n + 1) c7)
    simpa using h
  · have h := own_kept HO7.out G3 (fun j e e2 => by
      have := (HO7.out.lt j e).1
      injection e2 with e2
      omega)
    rw [List.length_append, ← HN.out, fgCells_snoc]
    exact h
  · exact ⟨G3.os.trans (G2.os.trans G1.os), G3.tape.trans (G2.tape.trans G1.tape), G3.output.trans (G2.output.trans G1.output), Nat.le_trans G1.size (Nat.le_trans G2.size G3.size), fun j hj hjg ho => (G3.block j (Nat.lt_of_lt_of_le hj (Nat.le_trans G1.size G2.size)) (fun e => hjg (by injection e))).trans ((G2.block j (Nat.lt_of_lt_of_le hj G1.size) (fun e => ho e.symm)).trans (G1.block j hj (fun e => ho e.symm)))⟩
  · intro j hj
    rcases HVV with h | h
    · exact .inl (h.symm.trans hj)
    · rw [h] at hj
      injection hj with hj
      rw [World.size_alloc] at hj
      exact .inr (by omega)
end Go.Proofs.YtpnbkecchfhimaaGreatDoor

/- out of LiH -/
namespace Go.Proofs.YtpnbkecchfhimaaGreatDoor
open Go.RowKit Go.Shelf
open Go.Lib (hid)
set_option linter.unusedVariables false
set_option linter.unusedSimpArgs false
set_option maxRecDepth 100000

/-- Is an element void? -/
def voidB (x : ByteArray) : Bool := bits BinOp.and IntKind.i64 (elV x) 2 != 0
theorem elHas_any (x : ByteArray) (hx : x.size ≤ maxLen) (w : World) (ht : TabSp w) : Calls Tryz.prog 76 #[.string x, .int .i64 2] w fun e w' => e = .returned (.bool (voidB x)) ∧ Below w.heap.size w w' := by
  have HV := hid (show voidB x = (bits BinOp.and IntKind.i64 (elV x) 2 != 0) from rfl)
  have H := hid (elOf_any x hx w ht)
  clear ht
  go_enter Tryz.func76, Tryz.ntmps76
  go_wp2_with fail
  refine H.out.mono ?_
  rintro e w2 ⟨rfl, hb2⟩
  have HB2 := hid hb2
  generalize elV x = V at *
  clear hb2
  go_wp2_with fail
  go_ret
  exact ⟨by rw [HV.out]; rfl, HB2.out⟩
end Go.Proofs.YtpnbkecchfhimaaGreatDoor

/- out of LiP -/
namespace Go.Proofs.YtpnbkecchfhimaaGreatDoor
open Go.RowKit Go.Shelf
open Go.Lib (hid)
set_option linter.unusedVariables false
set_option maxRecDepth 100000

def Fg.up (d : Int) (f : Fg) : Fg := ⟨f.kind, f.at_ + d⟩
/-- What one piece is found to be. -/
def pcFg (zs : List Int) (b : Int) : List Fg :=
  if S1.validF (zs.take (S1.readF zs).2.1) = false then [⟨1, b⟩] else if zs.headD 0 = 60 ∨ zs.headD 0 = 38 then [⟨2, b⟩] else []
/-- What is found in a text from place b on. -/
def txFg : Nat → List Int → Int → List Fg
  | 0, _, _ => []
  | f + 1, zs, b => if zs = [] then [] else pcFg zs b ++ txFg f (zs.drop (S1.readF zs).2.1) (b + (S1.readF zs).2.1)
theorem pcFg_up (zs : List Int) (b d : Int) : pcFg zs (b + d) = (pcFg zs b).map (Fg.up d) := by
  unfold pcFg
  split
  · rfl
  · split <;> rfl
theorem txFg_up (d : Int) : ∀ (f : Nat) (zs : List Int) (b : Int), txFg f zs (b + d) = (txFg f zs b).map (Fg.up d)
  | 0, _, _ => rfl
  | f + 1, zs, b => by
    unfold txFg
    split
    · rfl
    · rw [List.map_append, pcFg_up, ← txFg_up d f, show b + d + ((S1.readF zs).2.1 : Int) = b + ((S1.readF zs).2.1 : Int) + d by omega]
theorem pcFg_mem {zs : List Int} {b : Int} {x : Fg} (h : x ∈ pcFg zs b) : x.at_ = b ∧ (x.kind = 1 ∨ x.kind = 2) := by
  unfold pcFg at h
  split at h
  · simp at h; subst h; exact ⟨rfl, .inl rfl⟩
  · split at h
    · simp at h; subst h; exact ⟨rfl, .inr rfl⟩
    · simp at h
theorem pcFg_pw (zs : List Int) (b : Int) : (pcFg zs b).Pairwise fun x y => x.at_ < y.at_ := by
  unfold pcFg
  split
  · simp
  · split <;> simp
theorem txFg_in : ∀ (f : Nat) (zs : List Int) (b : Int) (x : Fg), x ∈ txFg f zs b → b ≤ x.at_ ∧ (x.kind = 1 ∨ x.kind = 2)
  | 0, _, _, x, h => by simp [txFg] at h
  | f + 1, zs, b, x, h => by
    unfold txFg at h
    split at h
    · simp at h
    · rcases List.mem_append.1 h with h | h
      · have := pcFg_mem h
        exact ⟨by omega, this.2⟩
      · have := txFg_in f _ _ x h
        exact ⟨by omega, this.2⟩
theorem txFg_lt : ∀ (f : Nat) (zs : List Int) (b : Int) (x : Fg), x ∈ txFg f zs b → x.at_ < b + zs.length
  | 0, _, _, x, h => by simp [txFg] at h
  | f + 1, [], b, x, h => by simp [txFg] at h
  | f + 1, c :: t, b, x, h => by
    have hz := S1.readF_size c t
    unfold txFg at h
    rw [if_neg (by simp)] at h
    rcases List.mem_append.1 h with h | h
    · have := pcFg_mem h
      rw [List.length_cons]
      omega
    · have := txFg_lt f _ _ x h
      rw [List.length_drop, List.length_cons] at this
      rw [List.length_cons]
      omega
/-- Places rise in a text. -/
theorem txFg_pw : ∀ (f : Nat) (zs : List Int) (b : Int), (txFg f zs b).Pairwise fun x y => x.at_ < y.at_
  | 0, _, _ => by simp [txFg]
  | f + 1, [], b => by simp [txFg]
  | f + 1, c :: t, b => by
    have hz := S1.readF_size c t
    unfold txFg
    rw [if_neg (by simp), List.pairwise_append]
    refine ⟨pcFg_pw _ _, txFg_pw f _ _, fun x hx y hy => ?_⟩
    have h1 := (pcFg_mem hx).1
    have h2 := (txFg_in f _ _ y hy).1
    omega
end Go.Proofs.YtpnbkecchfhimaaGreatDoor

/- out of LiQ -/
namespace Go.Proofs.YtpnbkecchfhimaaGreatDoor
open Go.RowKit Go.Shelf
open Go.Lib (hid)
set_option linter.unusedVariables false
set_option maxRecDepth 100000

/-- What stands open by name, and what was found. -/
structure Fs where
  op : ByteArray → List Int
  out : List Fg
def fs0 : Fs := ⟨fun _ => [], []⟩
def updO (f : ByteArray → List Int) (n : ByteArray) (l : List Int) : ByteArray → List Int := fun m => if m = n then l else f m
def segL (s : ByteArray) (t : Tk) : List Int := intsOf (s.extract t.fr t.til)
/-- One token more. -/
def stepL (s : ByteArray) (x : Fs) (t : Tk) : Fs :=
  if t.kind = 0 then ⟨x.op, x.out ++ txFg (t.til - t.fr) (segL s t) t.fr⟩
  else if t.kind = 2 ∨ t.kind = 3 then
    (if (readV s t.fr).1.closed = false then ⟨x.op, x.out ++ [⟨0, t.fr⟩]⟩
    else if t.kind = 2 then (if voidB t.name = false ∧ t.single = false then ⟨updO x.op t.name (x.op t.name ++ [(t.fr : Int)]), x.out⟩ else x)
    else if x.op t.name = [] then ⟨x.op, x.out ++ [⟨4, t.fr⟩]⟩ else ⟨updO x.op t.name (x.op t.name).dropLast, x.out⟩)
  else if t.kind = 6 then (if (readE s t.fr).whole = false then ⟨x.op, x.out ++ [⟨3, t.fr⟩]⟩ else x)
  else if t.kind = 4 ∨ t.kind = 5 then (if (readV s t.fr).1.closed = false then ⟨x.op, x.out ++ [⟨0, t.fr⟩]⟩ else x)
  else x
def finL (s : ByteArray) : Fs := (toks s).foldl (stepL s) fs0
/-- All places so far are below b, and no two alike. -/
structure FsOk (x : Fs) (b : Nat) : Prop where
  out_pw : x.out.Pairwise fun f g => f.at_ < g.at_
  out_in : ∀ f ∈ x.out, 0 ≤ f.at_ ∧ f.at_ < b ∧ 0 ≤ f.kind ∧ f.kind ≤ 4
  op_in : ∀ n, ∀ z ∈ x.op n, 0 ≤ z ∧ z < b
  op_pw : ∀ n, (x.op n).Pairwise (· < ·)
  op_two : ∀ n m, ∀ z ∈ x.op n, z ∈ x.op m → n = m
  op_out : ∀ n, ∀ z ∈ x.op n, ∀ f ∈ x.out, f.at_ ≠ z
theorem FsOk.mono {x : Fs} {b c : Nat} (h : FsOk x b) (hc : b ≤ c) : FsOk x c :=
  ⟨h.out_pw, fun f hf => by have := h.out_in f hf; omega, fun n z hz => by have := h.op_in n z hz; omega, h.op_pw, h.op_two, h.op_out⟩
theorem FsOk.zero : FsOk fs0 0 := ⟨List.Pairwise.nil, (fun f h => by cases h), (fun n z h => by cases h), fun n => List.Pairwise.nil, (fun n m z h => by cases h), (fun n z h => by cases h)⟩
/-- Findings more, at places from b on. -/
theorem FsOk.found {x : Fs} {b c : Nat} (h : FsOk x b) (l : List Fg) (hl : l.Pairwise fun f g => f.at_ < g.at_) (hi : ∀ f ∈ l, (b : Int) ≤ f.at_ ∧ f.at_ < c ∧ 0 ≤ f.kind ∧ f.kind ≤ 4) (hc : b ≤ c) : FsOk ⟨x.op, x.out ++ l⟩ c := by
  refine ⟨List.pairwise_append.2 ⟨h.out_pw, hl, fun f hf g hg => ?_⟩, fun f hf => ?_, fun n z hz => ?_, h.op_pw, h.op_two, fun n z hz f hf => ?_⟩
  · have h1 := h.out_in f hf
    have h2 := hi g hg
    omega
  · rcases List.mem_append.1 hf with hf | hf
    · have := h.out_in f hf; omega
    · have := hi f hf; omega
  · have := h.op_in n z hz; omega
  · rcases List.mem_append.1 hf with hf | hf
    · exact h.op_out n z hz f hf
    · have h1 := hi f hf
      have h2 := h.op_in n z hz
      omega
theorem FsOk.one {x : Fs} {b c : Nat} (h : FsOk x b) (k : Int) (h0 : 0 ≤ k) (h4 : k ≤ 4) (a : Nat) (ha : b ≤ a) (hc : a < c) : FsOk ⟨x.op, x.out ++ [⟨k, (a : Int)⟩]⟩ c :=
  h.found [⟨k, a⟩] (by simp) (fun f hf => by rw [List.mem_singleton.1 hf]; exact ⟨by show (b : Int) ≤ (a : Int); omega, by show (a : Int) < c; omega, h0, h4⟩) (by omega)
theorem FsOk.push {x : Fs} {b c : Nat} (h : FsOk x b) (n : ByteArray) (a : Nat) (ha : b ≤ a) (hc : a < c) : FsOk ⟨updO x.op n (x.op n ++ [(a : Int)]), x.out⟩ c := by
  have hm : ∀ m z, z ∈ updO x.op n (x.op n ++ [(a : Int)]) m → z ∈ x.op m ∨ (z = a ∧ m = n) := fun m z hz => by
    unfold updO at hz
    split at hz
    · rename_i e
      subst e
      rcases List.mem_append.1 hz with hz | hz
      · exact .inl hz
      · exact .inr ⟨List.mem_singleton.1 hz, rfl⟩
    · exact .inl hz
  refine ⟨h.out_pw, fun f hf => by have := h.out_in f hf; exact ⟨this.1, by omega, this.2.2⟩, fun m z hz => ?_, fun m => ?_, fun m k z hz hk => ?_, fun m z hz f hf => ?_⟩
  · rcases hm m z hz with hz | ⟨rfl, _⟩
    · have := h.op_in m z hz; omega
    · omega
  · show (updO x.op n (x.op n ++ [(a : Int)]) m).Pairwise _
    unfold updO
    split
    · refine List.pairwise_append.2 ⟨h.op_pw n, by simp, fun y hy z hz => ?_⟩
      have := h.op_in n y hy
      rw [List.mem_singleton.1 hz]
      omega
    · exact h.op_pw m
  · rcases hm m z hz with hz | ⟨e1, e2⟩
    · rcases hm k z hk with hk | ⟨e1, e2⟩
      · exact h.op_two m k z hz hk
      · have := h.op_in m z hz; omega
    · rcases hm k z hk with hk | ⟨_, e3⟩
      · have := h.op_in k z hk; omega
      · rw [e2, e3]
  · rcases hm m z hz with hz | ⟨rfl, _⟩
    · exact h.op_out m z hz f hf
    · have := h.out_in f hf; omega
theorem FsOk.pop {x : Fs} {b c : Nat} (h : FsOk x b) (n : ByteArray) (hc : b ≤ c) : FsOk ⟨updO x.op n (x.op n).dropLast, x.out⟩ c := by
  have hm : ∀ m z, z ∈ updO x.op n (x.op n).dropLast m → z ∈ x.op m := fun m z hz => by
    unfold updO at hz
    split at hz
    · rename_i e
      subst e
      exact (List.dropLast_sublist _).subset hz
    · exact hz
  refine ⟨h.out_pw, fun f hf => by have := h.out_in f hf; exact ⟨this.1, by omega, this.2.2⟩, fun m z hz => by have := h.op_in m z (hm m z hz); omega, fun m => ?_, fun m k z hz hk => h.op_two m k z (hm m z hz) (hm k z hk), fun m z hz f hf => h.op_out m z (hm m z hz) f hf⟩
  show (updO x.op n (x.op n).dropLast m).Pairwise _
  unfold updO
  split
  · exact (h.op_pw n).sublist (List.dropLast_sublist _)
  · exact h.op_pw m
theorem stepL_ok (s : ByteArray) (x : Fs) (t : Tk) (b : Nat) (h : FsOk x b) (hb : b ≤ t.fr) (ht : t.fr < t.til) (hs : t.til ≤ s.size) : FsOk (stepL s x t) t.til := by
  have hlen : (segL s t).length = t.til - t.fr := by unfold segL; rw [intsOf_len, ByteArray.size_extract]; omega
  have h0 := h.mono (show b ≤ t.til by omega)
  unfold stepL
  split
  · refine h.found _ (txFg_pw _ _ _) (fun f hf => ?_) (by omega)
    have h1 := txFg_in _ _ _ f hf
    have h2 := txFg_lt _ _ _ f hf
    omega
  · split
    · split
      · exact h.one 0 (by decide) (by decide) t.fr hb ht
      · split
        · split
          · exact h.push _ t.fr hb ht
          · exact h0
        · split
          · exact h.one 4 (by decide) (by decide) t.fr hb ht
          · exact h.pop _ (by omega)
    · split
      · split
        · exact h.one 3 (by decide) (by decide) t.fr hb ht
        · exact h0
      · split
        · split
          · exact h.one 0 (by decide) (by decide) t.fr hb ht
          · exact h0
        · exact h0
theorem foldL_ok (s : ByteArray) : ∀ (l : List Tk) (i : Nat) (pk : Int) (x : Fs), tileP s.size i pk l → FsOk x i → FsOk (l.foldl (stepL s) x) s.size
  | [], i, pk, x, h, ho => by
    have h : i = s.size := h
    exact ho.mono (by omega)
  | t :: r, i, pk, x, h, ho => by
    obtain ⟨h1, h2, h3, h4, h5, h6⟩ := h
    have hle : t.til ≤ s.size := by
      have : ∀ (r : List Tk) (i : Nat) (pk : Int), tileP s.size i pk r → i ≤ s.size := by
        intro r
        induction r with
        | nil => intro i pk h; have h : i = s.size := h; omega
        | cons u r ih => intro i pk h; have h1 := h.1; have h2 := h.2.1; have := ih _ _ h.2.2.2.2.2; omega
      exact this r _ _ h6
    rw [List.foldl_cons]
    exact foldL_ok s r _ _ _ h6 (stepL_ok s x t i ho (by omega) (by omega) hle)
theorem finL_ok (s : ByteArray) : FsOk (finL s) s.size := foldL_ok s _ 0 (-1) _ (toks_tiles s) FsOk.zero
/-- What the finder has in the end, of any order of the names. -/
def endFg (x : Fs) (ks : List ByteArray) : List Fg := x.out ++ ks.flatMap fun n => (x.op n).map fun z => ⟨5, z⟩
def memL (x : Fs) (f : Fg) : Prop := f ∈ x.out ∨ (f.kind = 5 ∧ ∃ n, f.at_ ∈ x.op n)
theorem endFg_mem {x : Fs} {ks : List ByteArray} (hk : ∀ n, x.op n ≠ [] → n ∈ ks) (f : Fg) : f ∈ endFg x ks ↔ memL x f := by
  unfold endFg memL
  rw [List.mem_append, List.mem_flatMap]
  constructor
  · rintro (h | ⟨n, _, h⟩)
    · exact .inl h
    · obtain ⟨z, hz, rfl⟩ := List.mem_map.1 h
      exact .inr ⟨rfl, n, hz⟩
  · rintro (h | ⟨h5, n, h⟩)
    · exact .inl h
    · refine .inr ⟨n, hk n (fun e => by rw [e] at h; cases h), List.mem_map.2 ⟨f.at_, h, ?_⟩⟩
      cases f
      simp only at h5
      rw [h5]
theorem nodup_end {x : Fs} {b : Nat} (h : FsOk x b) : ∀ ks : List ByteArray, ks.Nodup → (endFg x ks).Pairwise fun f g => f.at_ ≠ g.at_ := by
  intro ks hn
  refine List.pairwise_append.2 ⟨h.out_pw.imp fun h => by omega, ?_, fun f hf g hg => ?_⟩
  · induction ks with
    | nil => exact List.Pairwise.nil
    | cons n ks ih =>
      rw [List.flatMap_cons]
      obtain ⟨hn1, hn2⟩ := List.nodup_cons.1 hn
      refine List.pairwise_append.2 ⟨List.pairwise_map.2 ((h.op_pw n).imp fun h => by show _ ≠ _; simp only; omega), ih hn2, fun f hf g hg => ?_⟩
      obtain ⟨z, hz, rfl⟩ := List.mem_map.1 hf
      obtain ⟨m, hm, hg⟩ := List.mem_flatMap.1 hg
      obtain ⟨y, hy, rfl⟩ := List.mem_map.1 hg
      show z ≠ y
      rintro rfl
      have := h.op_two n m z hz hy
      subst this
      exact hn1 hm
  · obtain ⟨m, hm, hg⟩ := List.mem_flatMap.1 hg
    obtain ⟨y, hy, rfl⟩ := List.mem_map.1 hg
    exact h.op_out m y hy f hf
/-- What is found, in order. -/
structure FoundL (s : ByteArray) (l : List Fg) : Prop where
  pw : l.Pairwise fun f g => f.at_ < g.at_
  mem : ∀ f, f ∈ l ↔ memL (finL s) f
theorem foundL_of {s : ByteArray} {l : List Fg} {ks : List ByteArray} (hk : ∀ n, (finL s).op n ≠ [] → n ∈ ks) (hn : ks.Nodup) (hp : l.Perm (endFg (finL s) ks)) (hs : l.Pairwise fun f g => f.at_ ≤ g.at_) : FoundL s l := by
  refine ⟨?_, fun f => (hp.mem_iff).trans (endFg_mem hk f)⟩
  have hne : l.Pairwise fun f g => f.at_ ≠ g.at_ := (hp.pairwise_iff (fun {a b} h e => h e.symm)).2 (nodup_end (finL_ok s) ks hn)
  exact (hs.and hne).imp fun ⟨h1, h2⟩ => by omega
theorem FoundL.rng {s : ByteArray} {l : List Fg} (h : FoundL s l) : ∀ f ∈ l, 0 ≤ f.at_ ∧ f.at_ < s.size ∧ 0 ≤ f.kind ∧ f.kind ≤ 5 := by
  intro f hf
  have ho := finL_ok s
  rcases (h.mem f).1 hf with h1 | ⟨h5, n, h1⟩
  · have := ho.out_in f h1; omega
  · have := ho.op_in n _ h1; omega
/-- Two rising lists of the same findings are one. -/
theorem rising_unique : ∀ {l k : List Fg}, (l.Pairwise fun f g => f.at_ < g.at_) → (k.Pairwise fun f g => f.at_ < g.at_) → (∀ f, f ∈ l ↔ f ∈ k) → l = k
  | [], [], _, _, _ => rfl
  | [], y :: k, _, _, h => absurd ((h y).2 (List.mem_cons_self ..)) (by simp)
  | x :: l, [], _, _, h => absurd ((h x).1 (List.mem_cons_self ..)) (by simp)
  | x :: l, y :: k, hl, hk, h => by
    rw [List.pairwise_cons] at hl hk
    have hxy : x = y := by
      rcases List.mem_cons.1 ((h x).1 (List.mem_cons_self ..)) with e | e
      · exact e
      · rcases List.mem_cons.1 ((h y).2 (List.mem_cons_self ..)) with e2 | e2
        · exact e2.symm
        · have h1 := hk.1 x e
          have h2 := hl.1 y e2
          omega
    subst hxy
    have : l = k := rising_unique hl.2 hk.2 fun f => ⟨fun hf => by
        rcases List.mem_cons.1 ((h f).1 (List.mem_cons_of_mem _ hf)) with e | e
        · subst e; have := hl.1 f hf; omega
        · exact e, fun hf => by
        rcases List.mem_cons.1 ((h f).2 (List.mem_cons_of_mem _ hf)) with e | e
        · subst e; have := hk.1 f hf; omega
        · exact e⟩
    rw [this]
end Go.Proofs.YtpnbkecchfhimaaGreatDoor

/- out of LiM -/
namespace Go.Proofs.YtpnbkecchfhimaaGreatDoor
open Go.RowKit Go.Shelf Go.Maps Go.ChangeShapes
open Go.Lib (hid)
set_option linter.unusedVariables false
set_option linter.unusedSimpArgs false
set_option maxRecDepth 100000

def litZ : DataW Unit → Option Int
  | .lit (.int _ z) => some z
  | _ => none
/-- The numbers of a slice, as read. -/
def itemsD : DataW Unit → List Int
  | .slice l _ => l.filterMap litZ
  | _ => []
theorem items_lits (q : IntKind) : ∀ zs : List Int, itemsD (.slice (lits q zs) []) = zs
  | [] => rfl
  | z :: zs => by
    have ih := items_lits q zs
    show List.filterMap litZ (.lit (.int q z) :: lits q zs) = _
    rw [List.filterMap_cons]
    show z :: List.filterMap litZ (lits q zs) = _
    rw [show List.filterMap litZ (lits q zs) = zs from ih]
theorem items_row {w : World} {base : Nat} {e : TypeId} {q : IntKind} {v : Value} {zs : List Int} (h : w.ownsInts base e q v zs) : itemsD (rowDatum q v zs) = zs := by
  rcases h.datum (H := Unit) with ⟨h1, h2⟩ | h1
  · rw [h1, h2]; rfl
  · rw [h1]; exact items_lits q zs
/-- The map tells what stands open. -/
def GrD (D : DataW Unit) (op : ByteArray → List Int) : Prop := IsMap D ∧ ∀ x : ByteArray, itemsD (D.atKey (strL x) .nil) = op x
theorem GrD.empty : GrD (.map []) fun _ => [] := ⟨isMap_empty, fun x => rfl⟩
theorem GrD.put {D : DataW Unit} {op : ByteArray → List Int} (h : GrD D op) {w : World} {base : Nat} {e : TypeId} {q : IntKind} {v : Value} {zs : List Int} (n : ByteArray) (ho : w.ownsInts base e q v zs) : GrD (D.put (strL n) (rowDatum q v zs)) (updO op n zs) := by
  refine ⟨h.1.put _ _, fun x => ?_⟩
  unfold updO
  by_cases hx : x = n
  · subst hx
    rw [if_pos rfl, atKey_put_same h.1 (show WideAt.IsKeyLit (strL x) from trivial), items_row ho]
  · rw [if_neg hx, atKey_put_other (fun e => hx (strL_inj e)), h.2 x]
abbrev Grp (W : World) (mb n : Nat) (D : DataW Unit) : Prop := W.ownsGroups Tryz.prog 9 (mb + 1) 3 .i64 mb n D
theorem Grp.lt {W : World} {mb n : Nat} {D : DataW Unit} (h : Grp W mb n D) : mb < W.heap.size := by
  obtain ⟨es, clock, hb, _⟩ := h
  exact (Array.getElem?_eq_some_iff.1 hb).1
/-- The finder's state. -/
structure FnW (W : World) (g B mb n : Nat) (bv ov : Value) (x : Fs) : Prop where
  at_ : FnAt W g B bv (.map (some mb)) ov x.out
  grp : ∃ D, Grp W mb n D ∧ GrD D x.op
  shun : ∀ j, ov.ownBlock = some j → W.Shuns mb (· = j)
  gB : g < B
  mB : mb < B
  gm : g ≠ mb
/-- A block that the finder will not turn. -/
structure Prot (W : World) (g mb : Nat) (ov : Value) (k : Nat) : Prop where
  lt : k < W.heap.size
  ng : k ≠ g
  nm : k ≠ mb
  no : ov.ownBlock ≠ some k
  sh : W.Shuns mb (· = k)
structure FnStep (w w' : World) (g mb : Nat) (ov ov' : Value) : Prop where
  os : w'.os = w.os
  tape : w'.tape = w.tape
  output : w'.output = w.output
  size : w.heap.size ≤ w'.heap.size
  block : ∀ k, Prot w g mb ov k → w'.heap[k]? = w.heap[k]? ∧ Prot w' g mb ov' k
theorem FnStep.trans {w w1 w2 : World} {g mb : Nat} {ov ov1 ov2 : Value} (h : FnStep w w1 g mb ov ov1) (k : FnStep w1 w2 g mb ov1 ov2) : FnStep w w2 g mb ov ov2 :=
  ⟨k.os.trans h.os, k.tape.trans h.tape, k.output.trans h.output, Nat.le_trans h.size k.size, fun j hj => by
    obtain ⟨h1, h2⟩ := h.block j hj
    obtain ⟨k1, k2⟩ := k.block j h2
    exact ⟨k1.trans h1, k2⟩⟩
theorem FnStep.refl (w : World) (g mb : Nat) (ov : Value) : FnStep w w g mb ov ov := ⟨rfl, rfl, rfl, Nat.le_refl _, fun _ h => ⟨rfl, h⟩⟩
/-- .. with as many names. -/
def FnRet0 (w w' : World) (g B mb n : Nat) (bv ov : Value) (x : Fs) : Prop := ∃ ov', FnW w' g B mb n bv ov' x ∧ FnStep w w' g mb ov ov'
def FnRet (w w' : World) (g B mb n : Nat) (bv ov : Value) (x : Fs) : Prop := ∃ ov' n', FnW w' g B mb n' bv ov' x ∧ n' ≤ n + 1 ∧ FnStep w w' g mb ov ov'
theorem FnW.low {W : World} {g B mb n : Nat} {bv ov : Value} {x : Fs} (h : FnW W g B mb n bv ov x) {B0 : Nat} (hg : B0 ≤ g) (hm : B0 ≤ mb) (hs : B0 ≤ W.heap.size) : ∀ k, k < B0 → Prot W g mb ov k := fun k hk => by
  obtain ⟨D, hD, _⟩ := h.grp
  refine ⟨by omega, by omega, by omega, fun e => ?_, fun es clock hb y hy j hj e => ?_⟩
  · have := (h.at_.2.lt k e).1
    have := h.gB
    omega
  · subst e
    obtain ⟨es', clock', hb', F, _⟩ := hD
    obtain ⟨rfl, rfl⟩ : es' = es ∧ clock' = clock := by rw [hb'] at hb; simpa using hb
    obtain ⟨y', hy'⟩ := F.reads y hy
    obtain ⟨z, hz, _⟩ := WideElems.rd_val hy'
    obtain ⟨zs, hoi, _⟩ := rowElem_inv hz
    have := (hoi.1.lt j hj).1
    omega
/-- Nothing old has turned. -/
theorem FnW.below {w w' : World} {g B mb n : Nat} {bv ov : Value} {x : Fs} (h : FnW w g B mb n bv ov x) (hb : Below w.heap.size w w') : FnW w' g B mb n bv ov x ∧ FnStep w w' g mb ov ov := by
  have hgr := grown_of_below hb none
  obtain ⟨D, hD, hop⟩ := h.grp
  have hlt := hD.lt
  refine ⟨⟨⟨h.at_.1.grown hgr (by simp), h.at_.2.kept hgr (by cases hq : ov.ownBlock <;> simp)⟩, ⟨D, hD.kept hgr (by simp) fun es clock hb y hy => by cases hq : y.val.ownBlock <;> simp, hop⟩, fun j hj => (h.shun j hj).kept hgr hlt (by simp), h.gB, h.mB, h.gm⟩, ⟨hb.os, hb.tape, hb.output, hb.size, fun k hk => ⟨hb.block k hk.lt, ⟨Nat.lt_of_lt_of_le hk.lt hb.size, hk.ng, hk.nm, hk.no, hk.sh.kept hgr hlt (by simp)⟩⟩⟩⟩
theorem setB_same (w : World) (g : Nat) (ob : Obj) (hg : g < w.heap.size) : (ChangeMaps.setBlock w g ob).heap[g]? = some ob := by simp [ChangeMaps.setBlock, hg]
theorem setB_other (w : World) {g k : Nat} (ob : Obj) (h : k ≠ g) : (ChangeMaps.setBlock w g ob).heap[k]? = w.heap[k]? := by simp [ChangeMaps.setBlock, Array.getElem?_setIfInBounds, Ne.symm h]
theorem But2.split {w w' : World} {g : Nat} {o : Option Nat} (h : But2 w w' g o) (hg : g < w.heap.size) : ∃ W1, w.grownBy W1 o ∧ W1.grownBy w' (some g) := by
  obtain ⟨ob, hob⟩ : ∃ ob, w.heap[g]? = some ob := ⟨_, Array.getElem?_eq_getElem hg⟩
  have hg' := Nat.lt_of_lt_of_le hg h.size
  refine ⟨ChangeMaps.setBlock w' g ob, ⟨h.os, h.tape, h.output, by simpa [ChangeMaps.setBlock] using h.size, fun k hk hne => ?_⟩, ⟨rfl, rfl, rfl, by simp [ChangeMaps.setBlock], fun k hk hne => ?_⟩⟩
  · by_cases hkg : k = g
    · subst hkg
      rw [setB_same _ _ _ hg', hob]
    · rw [setB_other _ _ hkg]
      exact h.block k hk hkg (fun e => hne e.symm)
  · exact (setB_other w' ob (fun e => hne (by rw [e]))).symm
/-- Findings were noted. -/
theorem FnRet0.up {w w' : World} {g B mb n : Nat} {bv ov : Value} {x : Fs} (h : FnRet0 w w' g B mb n bv ov x) : FnRet w w' g B mb n bv ov x := by
  obtain ⟨ov', a, b⟩ := h
  exact ⟨ov', n, a, Nat.le_succ _, b⟩
theorem FnW.found {w w' : World} {g B mb n : Nat} {bv ov : Value} {x : Fs} {l : List Fg} (h : FnW w g B mb n bv ov x) (hBs : B ≤ w.heap.size) (ht : FnTo w w' g B bv (.map (some mb)) ov (x.out ++ l)) : FnRet0 w w' g B mb n bv ov ⟨x.op, x.out ++ l⟩ := by
  obtain ⟨ov', ha, hb2, hov⟩ := ht
  obtain ⟨D, hD, hop⟩ := h.grp
  have hlt := hD.lt
  have hgB := h.gB
  have hmB := h.mB
  have hgm := h.gm
  obtain ⟨W1, g1, g2⟩ := hb2.split (by omega)
  have hmo : some mb ≠ ov.ownBlock := fun e => by have := (h.at_.2.lt mb e.symm).1; omega
  have hmg : some mb ≠ some g := fun e => by injection e with e; exact hgm e.symm
  have hD1 : Grp W1 mb n D := hD.kept g1 hmo fun es clock hb y hy => by
    cases hq : y.val.ownBlock with
    | none => exact .inl rfl
    | some j => exact .inr fun e => h.shun j e.symm es clock hb y hy j hq rfl
  have hD2 : Grp w' mb n D := hD1.kept g2 hmg fun es clock hb y hy => by
    cases hq : y.val.ownBlock with
    | none => exact .inl rfl
    | some j =>
      refine .inr fun e => ?_
      injection e with e
      subst e
      have hb0 := (g1.block mb hlt hmo).symm.trans hb
      obtain ⟨es', clock', hb', F, _⟩ := hD
      obtain ⟨rfl, rfl⟩ : es' = es ∧ clock' = clock := by rw [hb'] at hb0; simpa using hb0
      obtain ⟨y', hy'⟩ := F.reads y hy
      obtain ⟨z, hz, _⟩ := WideElems.rd_val hy'
      obtain ⟨zs, hoi, _⟩ := rowElem_inv hz
      have h1 := hoi.1.lt j hq
      -- a group's row has the type of numbers; the finder's block is no such row: it is block j of type finder
      obtain ⟨hz1, hz2⟩ := hoi.1
      rcases hz2 with ⟨e0, _⟩ | ⟨gq, cap, cur, e0, _, hh, _⟩
      · rw [e0] at hq; cases hq
      · rw [e0] at hq
        injection hq with hq
        have hq : gq = j := hq
        subst hq
        have := h.at_.1
        unfold Blk at this
        rw [this] at hh
        injection hh with hh
        injection hh with _ ht _
        exact absurd ht (by decide)
  have hsh : ∀ k, w.Shuns mb (· = k) → w'.Shuns mb (· = k) := fun k hk => (hk.kept g1 hlt hmo).kept g2 (Nat.lt_of_lt_of_le hlt g1.size) hmg
  refine ⟨ov', ⟨ha, ⟨D, hD2, hop⟩, fun j hj => ?_, hgB, hmB, hgm⟩, ⟨hb2.os, hb2.tape, hb2.output, hb2.size, fun k hk => ⟨hb2.block k hk.lt hk.ng (fun e => hk.no e), ⟨Nat.lt_of_lt_of_le hk.lt hb2.size, hk.ng, hk.nm, fun e => ?_, hsh k hk.sh⟩⟩⟩⟩
  · rcases hov j hj with h1 | h1
    · exact hsh j (h.shun j h1)
    · have h0 : w.Shuns mb fun _ => False := fun _ _ _ _ _ _ _ e => e
      exact hsh j (h0.reno hD fun q hq => by have : q = j := hq; exact .inr (by omega))
  · rcases hov k e with h1 | h1
    · exact hk.no h1
    · have := hk.lt; omega
end Go.Proofs.YtpnbkecchfhimaaGreatDoor
