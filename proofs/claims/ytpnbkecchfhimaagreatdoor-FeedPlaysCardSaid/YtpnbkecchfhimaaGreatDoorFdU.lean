/- Chapter 20: rows over what is fed; the pieces that have come: of the laws FeedPlays. -/
import Derived.Test.YtpnbkecchfhimaaGreatDoorFdS
import Derived.Test.YtpnbkecchfhimaaGreatDoorTkV
namespace Go.Proofs.YtpnbkecchfhimaaGreatDoor
open Go.RowKit Go.Shelf
open Go.Lib (hid)
set_option linter.unusedVariables false
set_option linter.unusedSimpArgs false
set_option maxRecDepth 100000

theorem grown_over {w w1 w2 : World} {g : Nat} {row : Option Nat} (h : w.grownBy w1 (some g)) (h2 : w1.grownBy w2 row) (hr : ∀ j, row = some j → w.heap.size ≤ j) : w.grownBy w2 (some g) :=
  ⟨h2.os.trans h.os, h2.tape.trans h.tape, h2.output.trans h.output, Nat.le_trans h.size h2.size, fun k hk hne => (h2.block k (Nat.lt_of_lt_of_le hk h.size) (fun e => by have := hr k e.symm; omega)).trans (h.block k hk hne)⟩
theorem row_grown {w w' : World} {B g n : Nat} {e : TypeId} {v : Value} {sz : Nat} {xs : List Value} (h : w.ownsRow B e sz v n xs) (hg : w.grownBy w' (some g)) (hB : g < B) : w'.ownsRow B e sz v n xs :=
  own_kept h hg (fun k e1 e2 => by
    have h1 := (h.lt k e1).1
    injection e2 with e2
    omega)
theorem told_more {s s' : ByteArray} {m k : Nat} (hok : FdOk s m k) (hp : Pre s s') : (toks s).take (m + k) ++ ((toks s').take (setN s')).drop (m + k) = (toks s').take (setN s') := by
  obtain ⟨h', ht, _⟩ := hok.grow hp
  have hle := h'.le_setN
  rw [← ht]
  have : (toks s').take (m + k) = ((toks s').take (setN s')).take (m + k) := by rw [List.take_take, Nat.min_eq_left hle]
  rw [this, List.take_append_drop]
theorem reads_own {B n m : Nat} {w : World} {v : Value} {l : List Tk} (h : w.ownsRow B 29 6 v n (tkCells l)) : ∃ A c, v = .slice A n c ∧ Reads w w.heap.size 6 A n (tkCells l) := by
  obtain ⟨A, c, rfl⟩ := owns_slice h
  exact ⟨A, c, rfl, Reads.of_own h⟩
theorem tkCells_oneF (l : List Tk) : ∀ u ∈ tkCells l, u.oneCell' = true := by
  intro u hu
  unfold tkCells at hu
  rw [List.mem_flatMap] at hu
  obtain ⟨t, _, ht⟩ := hu
  simp [tkC] at ht
  rcases ht with rfl | rfl | rfl | rfl | rfl | rfl <;> rfl
theorem catB_pre {l : List Pz} {i : Nat} (h : i < l.length) : Pre (catB (l.take i)) (catB (l.take (i + 1))) := by
  rw [catB_take h]
  exact ⟨by rw [ByteArray.size_append]; omega, fun j hj => byt_left _ _ j hj⟩
theorem catB_le (l : List Pz) : ∀ i, (catB (l.take i)).size ≤ (catB l).size := by
  intro i
  have : ∀ (a b : List Pz), catB (a ++ b) = catB a ++ catB b := by
    intro a b
    induction a with
    | nil => rw [List.nil_append]; exact (bnil_app _).symm
    | cons x a ih => show x.t ++ catB (a ++ b) = x.t ++ catB a ++ catB b; rw [ih, bapp_assoc]
  have h := this (l.take i) (l.drop i)
  rw [List.take_append_drop] at h
  rw [h, ByteArray.size_append]
  omega
theorem catB_app : ∀ (a b : List Pz), catB (a ++ b) = catB a ++ catB b
  | [], b => (bnil_app _).symm
  | x :: a, b => by
    show x.t ++ catB (a ++ b) = x.t ++ catB a ++ catB b
    rw [catB_app a b, bapp_assoc]
/-- What has come so far is the beginning of all. -/
theorem catB_front (l : List Pz) (i : Nat) : (catB l).extract 0 (catB (l.take i)).size = catB (l.take i) := by
  have h := catB_app (l.take i) (l.drop i)
  rw [List.take_append_drop] at h
  rw [h]
  apply ByteArray.ext
  rw [ByteArray.data_extract, ByteArray.data_append]
  have e : (catB (l.take i)).data.size = (catB (l.take i)).size := rfl
  rw [← e]
  simp
theorem setN_dropget {s : ByteArray} {mk j : Nat} (h : mk + j < setN s) (hl : mk + j < (toks s).length) : (((toks s).take (setN s)).drop mk)[j]? = some ((toks s)[mk + j]'hl) := by
  rw [List.getElem?_drop, List.getElem?_take, if_pos h, List.getElem?_eq_getElem hl]
/-- A token of the last answer has the bytes of its place. -/
theorem bytes_tok {s : ByteArray} {p f t : Nat} (hp : p ≤ f) (hf : f ≤ t) (ht : t ≤ s.size) : bytesF (s.extract p s.size) p f t = s.extract f t := by
  unfold bytesF
  rw [ext_size, if_pos ⟨by omega, by omega, by omega⟩, Int.toNat_natCast, Int.toNat_natCast]
  have := ext_twoT s p (f - p) (t - p) (by omega)
  rw [this]
  congr 1 <;> omega
/-- Tokens from one on begin no earlier than it. -/
theorem toks_from_fr {s : ByteArray} {m j : Nat} (hm : m ≤ j) (hj : j < (toks s).length) : begT (toks s) m ≤ ((toks s)[j]'hj).fr := by
  rw [toks_beg (List.getElem?_eq_getElem hj)]
  have : ∀ d m, j - m = d → m ≤ j → begT (toks s) m ≤ begT (toks s) j := by
    intro d
    induction d with
    | zero =>
      intro m h1 h2
      obtain rfl : m = j := by omega
      exact Nat.le_refl _
    | succ d ih =>
      intro m h1 h2
      have h3 := ih (m + 1) (by omega) (by omega)
      have hml : m < (toks s).length := by omega
      have h4 := toks_beg (List.getElem?_eq_getElem hml)
      have h5 := (toks_mem (List.getElem_mem hml)).1
      have h6 : begT (toks s) (m + 1) = ((toks s)[m]'hml).til := by
        show (match (toks s)[m]? with | none => 0 | some t => t.til) = _
        rw [List.getElem?_eq_getElem hml]
      omega
  exact this _ m rfl hm
end Go.Proofs.YtpnbkecchfhimaaGreatDoor
