/- Chapter 17: the number of a part: the walk. -/
import Derived.Test.YtlopigkaibkblaaDoorAnC
import Derived.Test.YtlopigkaibkblaaDoorAnShelf
import Derived.Lib.AtoiErr
namespace Go.Proofs.YtlopigkaibkblaaDoor
open Go.RowKit
open Go.Lib (hid)
set_option linter.unusedVariables false

def tenB : ByteArray := ⟨#[48, 49, 50, 51, 52, 53, 54, 55, 56, 57]⟩
/-- Are all its bytes digits? -/
def DigP (s : ByteArray) : Prop := ∀ i, i < s.size → 48 ≤ byt s i ∧ byt s i ≤ 57
theorem dropWhile_nil {α : Type} (p : α → Bool) : ∀ l : List α, l.dropWhile p = [] ↔ ∀ x ∈ l, p x = true
  | [] => by simp
  | a :: l => by
    rw [List.dropWhile_cons]
    by_cases h : p a = true
    · rw [if_pos h, dropWhile_nil p l]
      simp [h]
    · rw [if_neg h]
      simp [h]
theorem dropWhile_head {α : Type} (p : α → Bool) : ∀ (l : List α) (a : α) (r : List α), l.dropWhile p = a :: r → p a = false
  | [], a, r, h => by cases h
  | b :: l, a, r, h => by
    rw [List.dropWhile_cons] at h
    by_cases hb : p b = true
    · rw [if_pos hb] at h; exact dropWhile_head p l a r h
    · rw [if_neg hb] at h
      injection h with h1 _
      rw [← h1]
      simpa using hb
theorem trimS_nil (l cs : List UInt8) : Lib.trimS l cs = [] ↔ ∀ b ∈ l, cs.contains b = true := by
  unfold Lib.trimS Lib.trimLeftS Lib.trimRightS
  constructor
  · intro h
    have h2 := (dropWhile_nil _ _).1 h
    cases hd : l.reverse.dropWhile (cs.contains ·) with
    | nil =>
      have := (dropWhile_nil _ _).1 hd
      intro b hb
      exact this b (List.mem_reverse.2 hb)
    | cons a r =>
      have hf := dropWhile_head _ _ _ _ hd
      have := h2 a (by rw [hd]; simp)
      rw [hf] at this
      cases this
  · intro h
    have : l.reverse.dropWhile (cs.contains ·) = [] := (dropWhile_nil _ _).2 fun x hx => h x (List.mem_reverse.1 hx)
    rw [this]
    rfl
theorem ten_contains (b : UInt8) : tenB.data.toList.contains b = true ↔ 48 ≤ b.toNat ∧ b.toNat ≤ 57 := by
  constructor
  · intro h
    have hm : b ∈ tenB.data.toList := List.contains_iff_mem.1 h
    have hall : ∀ x ∈ tenB.data.toList, 48 ≤ x.toNat ∧ x.toNat ≤ 57 := by decide
    exact hall b hm
  · intro h
    have hb : b.toNat < 256 := UInt8.toNat_lt b
    have : ∀ n : Fin 256, 48 ≤ n.val ∧ n.val ≤ 57 → tenB.data.toList.contains (UInt8.ofNat n.val) = true := by decide +kernel
    have := this ⟨b.toNat, hb⟩ h
    simpa using this
theorem trim_dig (s : ByteArray) : Lib.trimS s.data.toList tenB.data.toList = [] ↔ DigP s := by
  rw [trimS_nil]
  unfold DigP byt
  constructor
  · intro h i hi
    have hi' : i < s.data.size := hi
    have := (ten_contains s.data[i]).1 (h _ (by simp))
    rw [Array.getD_eq_getD_getElem?, Array.getElem?_eq_getElem hi']
    simp only [Option.getD_some]
    omega
  · intro h b hb
    obtain ⟨i, hi, he⟩ := List.getElem_of_mem hb
    have hi' : i < s.data.size := by simpa using hi
    have := h i hi'
    rw [Array.getD_eq_getD_getElem?, Array.getElem?_eq_getElem hi'] at this
    have he' : s.data[i] = b := by simpa using he
    rw [ten_contains, ← he']
    simp only [Option.getD_some] at this
    omega
open Classical in
noncomputable def numB (s : ByteArray) : Option Int := if s.size ≤ 5 ∧ DigP s then some ((Lib.atoi s.data.toList).getD 0) else none
theorem numB_yes {s : ByteArray} (h5 : s.size ≤ 5) (h : DigP s) : numB s = some ((Lib.atoi s.data.toList).getD 0) := by unfold numB; exact if_pos ⟨h5, h⟩
theorem numB_no {s : ByteArray} (h : ¬ (s.size ≤ 5 ∧ DigP s)) : numB s = none := by unfold numB; exact if_neg h

set_option maxRecDepth 100000 in
set_option maxHeartbeats 4000000 in
theorem number_any (s : ByteArray) (hs : s.size ≤ 1048576) (te : TypeId) (pe : Value) (w : World) (hev : w.cell? ⟨Tryd.laysC172_ren.g 15, 0, none⟩ = some (.iface te pe)) :
    Calls Tryd.prog 22 #[.string s] w fun e w' => e = .returned (.tuple #[.int .i64 ((numB s).getD 0), .bool (numB s).isSome]) ∧ Below w.heap.size w w' := by
  have hgl := World.block_lt_of_cell? _ _ hev
  have HEV := hid hev
  clear hev
  by_cases h5 : 5 < s.size
  · have h5' : (5 : Int) < (s.size : Int) := by omega
    have HN := hid (numB_no (s := s) (fun h => by omega))
    go_enter Tryd.func22, Tryd.ntmps22
    go_wp2_with fail
    go_ret2
    rw [HN.out]
    exact ⟨rfl, Below.refl _ _⟩
  have h5' : ¬ (5 : Int) < (s.size : Int) := by omega
  have htrim : Calls Tryd.prog 28 #[.string s, .string tenB] w fun e w' => e = .returned (.string ⟨(Lib.trimS s.data.toList tenB.data.toList).toArray⟩) ∧ Below w.heap.size w w' :=
    Go.Proofs.Any.strings_Trim_laid Tryd.lays160 (by kernel_rfl) s tenB w (by omega) (by decide) (fun j b h => (show ∀ x ∈ tenB.data.toList, x.toNat < 128 by decide) b (List.mem_of_getElem? h))
  have hdig := trim_dig s
  have hxe : ∀ l : List UInt8, (⟨l.toArray⟩ : ByteArray).toList = l := fun l => by rw [Lib.toList_data]
  cases ht : Lib.trimS s.data.toList tenB.data.toList with
  | cons b r =>
    have HN := hid (numB_no (s := s) (fun h => by rw [hdig.2 h.2] at ht; cases ht))
    rw [ht] at htrim
    have hx := hxe (b :: r)
    generalize (⟨(b :: r).toArray⟩ : ByteArray) = x at *
    have hx1 : (x.toList != []) = true := by rw [hx]; rfl
    have hx2 : ¬ x.toList = [] := by rw [hx]; simp
    have hx3 : x.toList.isEmpty = false := by rw [hx]; rfl
    have HT := hid htrim
    clear htrim hdig ht hxe hx
    unfold tenB at HT
    go_enter Tryd.func22, Tryd.ntmps22
    go_wp2_with fail
    refine HT.out.mono ?_
    rintro e w2 ⟨rfl, hb2⟩
    go_wp2_with fail
    go_ret2
    rw [HN.out]
    exact ⟨rfl, hb2⟩
  | nil =>
    have hd := hdig.1 ht
    have HN := hid (numB_yes (s := s) (by omega) hd)
    rw [ht] at htrim
    have HT := hid htrim
    have hat : ∀ w2, Below w.heap.size w w2 → Calls Tryd.prog 29 #[.string s] w2 fun e w' => ∃ ev, e = .returned (.tuple #[.int .i64 ((Lib.atoi s.data.toList).getD 0), ev]) ∧ Below w2.heap.size w2 w' := by
      intro w2 hb2
      cases hat : Lib.atoi s.data.toList with
      | some v =>
        refine (Go.Proofs.Any.strconv_Atoi Tryd.lays172 s v (by omega) hat w2).mono ?_
        rintro e w' ⟨rfl, t, rfl⟩
        exact ⟨_, rfl, bytesWorld_below _ _ _⟩
      | none =>
        refine (Go.Proofs.Any.strconv_Atoi_err Tryd.laysC172 s (by omega) hat (.iface te pe) w2 ((hb2.cell (p := ⟨_, 0, none⟩) hgl).trans HEV.out) (Or.inr ⟨te, pe, rfl⟩)).mono ?_
        rintro e w' ⟨N, rfl, _, _, hb⟩
        exact ⟨_, rfl, hb⟩
    have HAT := hid hat
    clear htrim hdig ht hxe hd hat
    unfold tenB at HT
    go_enter Tryd.func22, Tryd.ntmps22
    go_wp2_with fail
    refine HT.out.mono ?_
    rintro e w2 ⟨rfl, hb2⟩
    have HB2 := hid hb2
    clear hb2
    go_wp2_with fail
    refine (HAT.out _ HB2.out).mono ?_
    rintro e w3 ⟨ev, rfl, hb3⟩
    generalize (Lib.atoi s.data.toList).getD 0 = v at *
    go_wp2_with fail
    go_ret2
    rw [HN.out]
    exact ⟨rfl, HB2.out.trans (hb3.mono HB2.out.size)⟩
end Go.Proofs.YtlopigkaibkblaaDoor
