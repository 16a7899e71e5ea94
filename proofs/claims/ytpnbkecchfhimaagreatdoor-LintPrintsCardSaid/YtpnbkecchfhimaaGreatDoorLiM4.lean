/- Texts of LiX, LiR, LiLaid, merged by a program of mine. -/
import Derived.Test.YtpnbkecchfhimaaGreatDoorLiM3
import Derived.Test.YtpnbkecchfhimaaGreatDoorOpenRows
import Derived.Lib.AppendIntMem
import Derived.Test.YtpnbkecchfhimaaGreatDoorOpen
import Derived.Test.YtpnbkecchfhimaaGreatDoorLiM1
import Derived.Test.YtpnbkecchfhimaaGreatDoorFdM4
import Derived.Test.YtpnbkecchfhimaaGreatDoorElM1

/- out of LiX -/
namespace Go.Proofs.YtpnbkecchfhimaaGreatDoor
open Go.RowKit Go.Shelf
open Go.Lib (hid)
set_option linter.unusedVariables false
set_option maxRecDepth 100000

def FO (w : World) (A : Option Addr) (n : Nat) (l : List Fg) : Prop :=
  n = l.length ∧ (0 < n → ∃ b off, A = some ⟨b, off, none⟩ ∧ b < w.heap.size ∧ ∀ (j : Nat) (h : j < l.length), w.cell? ⟨b, off + j * 2, none⟩ = some (.int .i64 l[j].kind) ∧ w.cell? ⟨b, off + j * 2 + 1, none⟩ = some (.int .i64 l[j].at_))
theorem FO.below {w w' : World} {A : Option Addr} {n B : Nat} {l : List Fg} (h : FO w A n l) (hb : Below B w w') (hB : w.heap.size ≤ B) : FO w' A n l :=
  ⟨h.1, fun hn => by
    obtain ⟨g, o, e, hg, hz⟩ := h.2 hn
    exact ⟨g, o, e, Nat.lt_of_lt_of_le hg hb.size, fun j hj => ⟨(hb.cell (p := ⟨g, o + j * 2, none⟩) (by show g < B; omega)).trans (hz j hj).1, (hb.cell (p := ⟨g, o + j * 2 + 1, none⟩) (by show g < B; omega)).trans (hz j hj).2⟩⟩⟩
theorem FO.at_ {w : World} {A : Option Addr} {n : Nat} {l : List Fg} (h : FO w A n l) {j : Nat} (hj : j < l.length) : ∃ g o, A = some ⟨g, o, none⟩ ∧ g < w.heap.size ∧ w.cell? ⟨g, o + j * 2, none⟩ = some (.int .i64 l[j].kind) ∧ w.cell? ⟨g, o + j * 2 + 1, none⟩ = some (.int .i64 l[j].at_) := by
  have h1 := h.1
  obtain ⟨g, o, e, hg, hz⟩ := h.2 (by omega)
  exact ⟨g, o, e, hg, (hz j hj).1, (hz j hj).2⟩
def In64 (z : Int) : Prop := -9223372036854775808 ≤ z ∧ z ≤ 9223372036854775807
theorem fo_of {w : World} {a : Option Addr} {len cap : Nat} {D : List (List Value)} (h : IsAggRow [.int .i64, .int .i64] w a len cap D) : ∃ l : List Fg, FO w a len l ∧ ∀ f ∈ l, In64 f.kind ∧ In64 f.at_ := by
  obtain ⟨hlen, hD, hc, hm, hcell⟩ := h
  obtain ⟨l, hl, hp⟩ := exists_list (P := fun i (x : Fg) => ∃ r, D[i]? = some r ∧ r[0]? = some (.int .i64 x.kind) ∧ r[1]? = some (.int .i64 x.at_) ∧ In64 x.kind ∧ In64 x.at_) len (fun i hi => by
    have hi' : i < D.length := by omega
    obtain ⟨hr, hk⟩ := hD D[i] (List.getElem_mem hi')
    obtain ⟨c0, e0, z0, rfl, w0⟩ := hk 0 (.int .i64) rfl
    obtain ⟨c1, e1, z1, rfl, w1⟩ := hk 1 (.int .i64) rfl
    refine ⟨⟨z0, z1⟩, D[i], List.getElem?_eq_getElem hi', e0, e1, ?_⟩
    simp only [Lit.wf, IntKind.min, IntKind.max, IntKind.signed, IntKind.bits, Bool.and_eq_true] at w0 w1
    simp at w0 w1
    unfold In64
    exact ⟨by show _ ≤ z0 ∧ z0 ≤ _; omega, by show _ ≤ z1 ∧ z1 ≤ _; omega⟩)
  refine ⟨l, ⟨hl.symm, fun hn => ?_⟩, fun x hx => ?_⟩
  · obtain ⟨b, off, e, hb, hcc⟩ := hcell.resolve_left (by omega)
    refine ⟨b, off, e, hb, fun j hj => ?_⟩
    obtain ⟨r, hr, e0, e1, _⟩ := hp j l[j] (List.getElem?_eq_getElem hj)
    exact ⟨hcc j r 0 _ hr e0, hcc j r 1 _ hr e1⟩
  · obtain ⟨j, hj, rfl⟩ := List.mem_iff_getElem.1 hx
    obtain ⟨r, hr, e0, e1, hw⟩ := hp j l[j] (List.getElem?_eq_getElem hj)
    exact hw
theorem ki_of {w : World} {a : Option Addr} {len cap : Nat} {zs : List Int} (h : IsRow .i64 w a len cap zs) : ∃ ks : List Int, KI w a len ks := by
  rcases h with ⟨rfl, rfl, rfl, rfl⟩ | ⟨x, rfl, hl, hm, hz, hcell, hwz⟩
  · exact ⟨[], rfl, fun h => absurd h (by decide)⟩
  · have hlen : (zs.take len).length = len := by rw [List.length_take]; omega
    refine ⟨zs.take len, hlen.symm, fun h0 => ?_⟩
    obtain ⟨b, off, spot⟩ := x
    have hc := hcell 0 (by omega)
    have hspot : spot = none := by simpa [Addr.add] using World.cell?_spot hc
    subst hspot
    refine ⟨b, off, rfl, World.block_lt_of_cell? _ _ hc, fun i hi => ?_⟩
    have h1 := hcell i (by omega)
    rw [show (Addr.add ⟨b, off, none⟩ i) = ⟨b, off + i, none⟩ by unfold Addr.add; split <;> simp_all] at h1
    rw [h1]
    have hi2 : i < zs.length := by omega
    simp [List.getD_eq_getElem?_getD, hi2]
/-- Is a number among the first k? -/
def anyT (ks : List Int) (c : Int) (k : Nat) : Bool := decide (c ∈ ks.take k)
theorem anyT_zero (ks : List Int) (c : Int) : anyT ks c 0 = false := by simp [anyT]
theorem anyT_all (ks : List Int) (c : Int) : anyT ks c ks.length = decide (c ∈ ks) := by unfold anyT; rw [List.take_length]
theorem anyT_step {ks : List Int} {c : Int} {k : Nat} (h : k < ks.length) : anyT ks c (k + 1) = (anyT ks c k || decide (ks[k] = c)) := by
  unfold anyT
  rw [List.take_add_one, List.getElem?_eq_getElem h]
  rw [Bool.eq_iff_iff, Bool.or_eq_true, decide_eq_true_iff, decide_eq_true_iff, decide_eq_true_iff]
  rw [List.mem_append]
  simp [eq_comm]
end Go.Proofs.YtpnbkecchfhimaaGreatDoor

/- out of LiR -/
namespace Go.Proofs.YtpnbkecchfhimaaGreatDoor
open Go.RowKit Go.Shelf
open Go.Lib (hid)
set_option linter.unusedVariables false
set_option maxRecDepth 100000

def ampS : ByteArray := ⟨#[38, 32]⟩
def Fs.up (d : Int) (x : Fs) : Fs := ⟨fun n => (x.op n).map (· + d), x.out.map (Fg.up d)⟩
theorem amp_size (s : ByteArray) : (ampS ++ s).size = 2 + s.size := by rw [ByteArray.size_append]; rfl
theorem amp_ext (s : ByteArray) : (ampS ++ s).extract 2 (ampS ++ s).size = s := by
  refine ext_byt (by rw [ext_size, amp_size]; omega) fun i hi => ?_
  rw [ext_size, amp_size] at hi
  rw [byt_ext _ _ _ (by rw [amp_size]; omega), show (2 : Nat) = ampS.size from rfl, byt_right]
theorem amp_byt0 (s : ByteArray) : byt (ampS ++ s) 0 = 38 := by rw [byt_left _ _ _ (by decide)]; decide
theorem amp_byt1 (s : ByteArray) : byt (ampS ++ s) 1 = 32 := by rw [byt_left _ _ _ (by decide)]; decide
theorem amp_readV (s : ByteArray) (i : Nat) (h : i < s.size) : readV (ampS ++ s) ((i + 2 : Nat) : Int) = readV s (i : Int) := by
  have := readV_extF (ampS ++ s) 2 i (by rw [amp_size]; omega)
  rw [amp_ext, Nat.add_comm 2 i] at this
  exact this.symm
theorem amp_readE (s : ByteArray) (i : Nat) (h : i < s.size) : readE (ampS ++ s) ((i + 2 : Nat) : Int) = readE s (i : Int) := by
  have := readE_extF (ampS ++ s) 2 i (by rw [amp_size]; omega)
  rw [amp_ext, Nat.add_comm 2 i] at this
  exact this.symm
theorem amp_seg (s : ByteArray) (t : Tk) (h : t.til ≤ s.size) : segL (ampS ++ s) (Tk.up 2 t) = segL s t := by
  unfold segL
  congr 1
  show (ampS ++ s).extract (t.fr + 2) (t.til + 2) = s.extract t.fr t.til
  refine ext_byt (by rw [ByteArray.size_extract, ByteArray.size_extract, amp_size]; omega) fun i hi => ?_
  rw [ByteArray.size_extract, amp_size] at hi
  rw [byt_extract _ _ _ _ (by omega) (by rw [amp_size]; omega), byt_extract _ _ _ _ (by omega) h, show t.fr + 2 + i = ampS.size + (t.fr + i) by show _ = 2 + _; omega, byt_right]
theorem up_op (d : Int) (x : Fs) (n : ByteArray) : (Fs.up d x).op n = (x.op n).map (· + d) := rfl
theorem up_updO (d : Int) (f : ByteArray → List Int) (n : ByteArray) (l : List Int) : (fun m => (updO f n l m).map (· + d)) = updO (fun m => (f m).map (· + d)) n (l.map (· + d)) := by
  funext m
  unfold updO
  split <;> rfl
theorem up_found (d : Int) (x : Fs) (l : List Fg) : Fs.up d ⟨x.op, x.out ++ l⟩ = ⟨(Fs.up d x).op, (Fs.up d x).out ++ l.map (Fg.up d)⟩ := by
  unfold Fs.up
  simp only [List.map_append]
theorem step_up (s : ByteArray) (x : Fs) (t : Tk) (h1 : t.fr < t.til) (h2 : t.til ≤ s.size) : stepL (ampS ++ s) (Fs.up 2 x) (Tk.up 2 t) = Fs.up 2 (stepL s x t) := by
  have eV : readV (ampS ++ s) ((Tk.up 2 t).fr : Int) = readV s (t.fr : Int) := amp_readV s t.fr (by omega)
  have eE : readE (ampS ++ s) ((Tk.up 2 t).fr : Int) = readE s (t.fr : Int) := amp_readE s t.fr (by omega)
  have eS := amp_seg s t h2
  have ek : (Tk.up 2 t).kind = t.kind := rfl
  have en : (Tk.up 2 t).name = t.name := rfl
  have es : (Tk.up 2 t).single = t.single := rfl
  have ef : ((Tk.up 2 t).fr : Int) = (t.fr : Int) + 2 := by show ((t.fr + 2 : Nat) : Int) = _; omega
  have el : (Tk.up 2 t).til - (Tk.up 2 t).fr = t.til - t.fr := by show t.til + 2 - (t.fr + 2) = _; omega
  unfold stepL
  rw [eV, eE, eS, ek, en, es, el, ef]
  split
  · rw [up_found, txFg_up]
  · split
    · split
      · rw [up_found]; rfl
      · split
        · split
          · show (⟨updO (Fs.up 2 x).op t.name ((Fs.up 2 x).op t.name ++ [(t.fr : Int) + 2]), (Fs.up 2 x).out⟩ : Fs) = ⟨fun m => (updO x.op t.name (x.op t.name ++ [(t.fr : Int)]) m).map (· + 2), x.out.map (Fg.up 2)⟩
            rw [up_updO, List.map_append]
            rfl
          · rfl
        · have he : ((Fs.up 2 x).op t.name = []) ↔ x.op t.name = [] := by rw [up_op, List.map_eq_nil_iff]
          by_cases hx : x.op t.name = []
          · rw [if_pos (he.2 hx), if_pos hx, up_found]; rfl
          · rw [if_neg (fun e => hx (he.1 e)), if_neg hx]
            show (⟨updO (Fs.up 2 x).op t.name ((Fs.up 2 x).op t.name).dropLast, (Fs.up 2 x).out⟩ : Fs) = ⟨fun m => (updO x.op t.name (x.op t.name).dropLast m).map (· + 2), x.out.map (Fg.up 2)⟩
            rw [up_updO, up_op, List.map_dropLast]
            rfl
    · split
      · split
        · rw [up_found]; rfl
        · rfl
      · split
        · split
          · rw [up_found]; rfl
          · rfl
        · rfl
theorem fold_up (s : ByteArray) : ∀ (l : List Tk) (x : Fs), (∀ t ∈ l, t.fr < t.til ∧ t.til ≤ s.size) → (l.map (Tk.up 2)).foldl (stepL (ampS ++ s)) (Fs.up 2 x) = Fs.up 2 (l.foldl (stepL s) x)
  | [], x, _ => rfl
  | t :: l, x, h => by
    have := h t (List.mem_cons_self ..)
    rw [List.map_cons, List.foldl_cons, List.foldl_cons, step_up s x t this.1 this.2]
    exact fold_up s l _ fun u hu => h u (List.mem_cons_of_mem _ hu)
/-- A finding more, ahead of all. -/
def Fs.pre (f : Fg) (x : Fs) : Fs := ⟨x.op, f :: x.out⟩
theorem step_pre (s : ByteArray) (f : Fg) (x : Fs) (t : Tk) : stepL s (Fs.pre f x) t = Fs.pre f (stepL s x t) := by
  unfold stepL
  split
  · rfl
  · split
    · split
      · rfl
      · split
        · split <;> rfl
        · show (if x.op t.name = [] then _ else _) = _
          split <;> rfl
    · split
      · split <;> rfl
      · split
        · split <;> rfl
        · rfl
theorem fold_pre (s : ByteArray) (f : Fg) : ∀ (l : List Tk) (x : Fs), l.foldl (stepL s) (Fs.pre f x) = Fs.pre f (l.foldl (stepL s) x)
  | [], x => rfl
  | t :: l, x => by rw [List.foldl_cons, List.foldl_cons, step_pre]; exact fold_pre s f l _
theorem amp_spec1 (s : ByteArray) : specB (ampS ++ s) 1 = false := by
  have hb := amp_byt1 s
  have he : (readE (ampS ++ s) ((1 : Nat) : Int)).size = 0 := by
    unfold readE
    rw [if_neg (fun h => by have := h.2.2; rw [show (((1 : Nat) : Int)).toNat = 1 from rfl, hb] at this; exact absurd this (by decide))]
    rfl
  unfold specB specA
  rw [hb, if_neg (by decide), if_neg (by decide), if_neg (by rw [he]; decide)]
  rfl
theorem amp_rest (s : ByteArray) (i : Nat) (h : i ≤ s.size) : toksAt (ampS ++ s) (2 + i) = (toksAt s i).map (Tk.up 2) := by
  have := toksAt_ext (ampS ++ s) 2 (by rw [amp_size]; omega) _ i (Nat.le_refl _)
  rwa [amp_ext] at this
theorem amp_scan (s : ByteArray) : scanTo (specB (ampS ++ s)) (ampS ++ s).size 1 = 2 + scanTo (specB s) s.size 0 := by
  rw [scanTo_step (by rw [amp_size]; omega) (amp_spec1 s), amp_size]
  by_cases h0 : s.size = 0
  · rw [h0, scanTo_end (by omega), scanTo_end (by omega)]
  · have hc : ∀ j, j < s.size → specB (ampS ++ s) (2 + j) = specB s j := fun j hj => by
      unfold specB
      rw [← specA_ext (ampS ++ s) 2 j (by rw [amp_size]; omega), amp_ext]
    have : ∀ d i, s.size - i ≤ d → i ≤ s.size → scanTo (specB (ampS ++ s)) (2 + s.size) (2 + i) = 2 + scanTo (specB s) s.size i := by
      intro d
      induction d with
      | zero => intro i h1 h2; rw [scanTo_end (by omega), scanTo_end (by omega)]
      | succ d ih =>
        intro i h1 h2
        by_cases hi : i < s.size
        · cases hp : specB s i with
          | true => rw [scanTo_stop (by omega) (by rw [hc i hi]; exact hp), scanTo_stop hi hp]
          | false => rw [scanTo_step (by omega) (by rw [hc i hi]; exact hp), scanTo_step hi hp, Nat.add_assoc]; exact ih (i + 1) (by omega) (by omega)
        · rw [scanTo_end (by omega), scanTo_end (by omega)]
    exact this _ 0 (Nat.le_refl _) (Nat.zero_le _)
theorem amp_spec0 (s : ByteArray) : specA (ampS ++ s) 0 = none := by
  have hb0 := amp_byt0 s
  have hb1 := amp_byt1 s
  have hsz := amp_size s
  have hent : entR (ampS ++ s) ((0 : Nat) : Int) = none := by
    unfold entR
    rw [if_pos ⟨by decide, by rw [hsz]; omega, hb0⟩]
    have hx : (ampS ++ s).extract (((0 : Nat) : Int)).toNat (ampS ++ s).size = ampS ++ s := by
      show (ampS ++ s).extract 0 _ = _
      exact ext_byt (by rw [ByteArray.size_extract]; omega) fun i hi => by
        rw [ByteArray.size_extract] at hi
        rw [byt_extract _ _ _ _ (by omega) (Nat.le_refl _), Nat.zero_add]
    rw [hx]
    unfold entH
    have hf : (fmOf (ampS ++ s)).skip = 1 ∧ (fmOf (ampS ++ s)).p 32 = false := by
      unfold fmOf
      rw [hb1, if_neg (fun h => absurd h.2.1 (by decide)), if_neg (fun h => absurd h.2 (by decide))]
      exact ⟨rfl, by decide⟩
    have hr : runE (ampS ++ s) = (fmOf (ampS ++ s)).skip := by
      unfold runE
      rw [runTo_halt]
      exact .inr (.inr (by rw [hf.1, hb1]; exact hf.2))
    rw [if_pos (.inl hr)]
  unfold specA
  rw [hb0, if_neg (by decide), if_pos rfl, hent]
  rfl
theorem readF_38 (l : List Int) : S1.readF (38 :: l) = (38, 1, true) := by
  unfold S1.readF
  rfl
theorem readF_32 (l : List Int) : S1.readF (32 :: l) = (32, 1, true) := by
  unfold S1.readF
  rfl
theorem tx_amp (f : Nat) (l : List Int) : txFg (f + 2) (38 :: 32 :: l) 0 = ⟨2, 0⟩ :: (txFg f l 0).map (Fg.up 2) := by
  have p1 : pcFg (38 :: 32 :: l) 0 = [⟨2, 0⟩] := by
    unfold pcFg
    rw [readF_38]
    rw [if_neg (by show ¬ S1.validF [38] = false; decide), if_pos (.inr rfl)]
  have p2 : pcFg (32 :: l) 1 = [] := by
    unfold pcFg
    rw [readF_32]
    rw [if_neg (by show ¬ S1.validF [32] = false; decide), if_neg (by show ¬ ((32 : Int) = 60 ∨ (32 : Int) = 38); decide)]
  rw [txFg, if_neg (by simp), p1, readF_38]
  show [(⟨2, 0⟩ : Fg)] ++ txFg (f + 1) (32 :: l) (0 + ((1 : Nat) : Int)) = _
  rw [show (0 : Int) + ((1 : Nat) : Int) = 1 from rfl, txFg, if_neg (by simp), p2, readF_32]
  show [(⟨2, 0⟩ : Fg)] ++ ([] ++ txFg f l (1 + ((1 : Nat) : Int))) = _
  rw [show (1 : Int) + ((1 : Nat) : Int) = 0 + 2 from rfl, txFg_up]
  rfl
/-- With a bare sign ahead: one finding more, ahead of all; the others are two places further on. -/
theorem finL_amp (s : ByteArray) : finL (ampS ++ s) = Fs.pre ⟨2, 0⟩ (Fs.up 2 (finL s)) := by
  have hin : ∀ i, i ≤ s.size → ∀ t ∈ toksAt s i, t.fr < t.til ∧ t.til ≤ s.size := fun i hi t ht => by
    have := toksAt_mem s _ i (Nat.le_refl _) t ht
    exact ⟨this.2.1, this.2.2.1⟩
  have h0 := toksAt_text (s := ampS ++ s) (i := 0) (by rw [amp_size]; omega) (amp_spec0 s)
  have htE : textE (ampS ++ s) 0 = 2 + scanTo (specB s) s.size 0 := amp_scan s
  rw [htE] at h0
  have hle := scanTo_le (specB s) (n := s.size) (i := 0) (Nat.zero_le _)
  rw [amp_rest s _ hle] at h0
  have htoks : toks (ampS ++ s) = textTk 0 (2 + scanTo (specB s) s.size 0) :: (toksAt s (scanTo (specB s) s.size 0)).map (Tk.up 2) := h0
  -- the first token's findings
  have hfirst : stepL (ampS ++ s) fs0 (textTk 0 (2 + scanTo (specB s) s.size 0)) = Fs.pre ⟨2, 0⟩ (Fs.up 2 ⟨fun _ => [], txFg (scanTo (specB s) s.size 0) (intsOf (s.extract 0 (scanTo (specB s) s.size 0))) 0⟩) := by
    unfold stepL
    rw [if_pos (show (textTk 0 (2 + scanTo (specB s) s.size 0)).kind = 0 from rfl)]
    have hseg : segL (ampS ++ s) (textTk 0 (2 + scanTo (specB s) s.size 0)) = 38 :: 32 :: intsOf (s.extract 0 (scanTo (specB s) s.size 0)) := by
      unfold segL
      show intsOf ((ampS ++ s).extract 0 (2 + scanTo (specB s) s.size 0)) = _
      generalize scanTo (specB s) s.size 0 = e at *
      have : (ampS ++ s).extract 0 (2 + e) = ampS ++ s.extract 0 e := by
        refine ext_byt (by rw [ByteArray.size_extract, amp_size, amp_size, ByteArray.size_extract]; omega) fun i hi => ?_
        rw [ByteArray.size_extract, amp_size] at hi
        rw [byt_extract _ _ _ _ (by omega) (by rw [amp_size]; omega), Nat.zero_add]
        by_cases h2 : i < 2
        · rw [byt_left _ _ _ (show i < ampS.size from h2), byt_left _ _ _ (show i < ampS.size from h2)]
        · rw [show i = ampS.size + (i - 2) by show i = 2 + _; omega, byt_right, byt_right, byt_extract _ _ _ _ (by omega) hle, Nat.zero_add]
      rw [this]
      unfold intsOf
      simp [ampS]
    rw [hseg]
    show (⟨fun _ => [], [] ++ txFg (2 + scanTo (specB s) s.size 0 - 0) (38 :: 32 :: intsOf (s.extract 0 (scanTo (specB s) s.size 0))) ((0 : Nat) : Int)⟩ : Fs) = _
    rw [List.nil_append, show 2 + scanTo (specB s) s.size 0 - 0 = scanTo (specB s) s.size 0 + 2 by omega, show ((0 : Nat) : Int) = 0 from rfl, tx_amp]
    rfl
  unfold finL
  rw [htoks, List.foldl_cons, hfirst, fold_pre, fold_up s _ _ (hin _ hle)]
  congr 2
  by_cases hz : s.size = 0
  · rw [hz, scanTo_end (by omega), toksAt_end (by omega)]
    have : toks s = [] := toksAt_end (by omega)
    rw [this]
    rfl
  · cases hsp : specA s 0 with
    | some sp =>
      have hB : specB s 0 = true := by unfold specB; rw [hsp]; rfl
      rw [scanTo_stop (by omega) hB]
      rfl
    | none =>
      have hB : specB s 0 = false := by unfold specB; rw [hsp]; rfl
      rw [scanTo_step (by omega) hB]
      have ht := toksAt_text (s := s) (i := 0) (by omega) hsp
      have hte : textE s 0 = scanTo (specB s) s.size (0 + 1) := rfl
      rw [hte] at ht
      have ht : toks s = textTk 0 (scanTo (specB s) s.size (0 + 1)) :: toksAt s (scanTo (specB s) s.size (0 + 1)) := ht
      rw [ht, List.foldl_cons]
      congr 1
theorem memL_amp (s : ByteArray) (f : Fg) : memL (finL (ampS ++ s)) f ↔ f = ⟨2, 0⟩ ∨ ∃ g, memL (finL s) g ∧ f = Fg.up 2 g := by
  rw [finL_amp]
  unfold memL Fs.pre Fs.up
  simp only
  constructor
  · rintro (h | ⟨h5, n, h⟩)
    · rcases List.mem_cons.1 h with h | h
      · exact .inl h
      · obtain ⟨g, hg, rfl⟩ := List.mem_map.1 h
        exact .inr ⟨g, .inl hg, rfl⟩
    · obtain ⟨z, hz, e⟩ := List.mem_map.1 h
      refine .inr ⟨⟨5, z⟩, .inr ⟨rfl, n, hz⟩, ?_⟩
      cases f
      unfold Fg.up
      simp only at *
      rw [h5, ← e]
  · rintro (rfl | ⟨g, h | ⟨h5, n, h⟩, rfl⟩)
    · exact .inl (List.mem_cons_self ..)
    · exact .inl (List.mem_cons_of_mem _ (List.mem_map.2 ⟨g, h, rfl⟩))
    · exact .inr ⟨h5, n, List.mem_map.2 ⟨g.at_, h, rfl⟩⟩
/-- What is found with a bare sign ahead of all. -/
theorem found_amp {s : ByteArray} {l m : List Fg} (hl : FoundL s l) (hm : FoundL (ampS ++ s) m) : m = ⟨2, 0⟩ :: l.map (Fg.up 2) := by
  refine rising_unique hm.pw ?_ fun f => ?_
  · rw [List.pairwise_cons]
    refine ⟨fun f hf => ?_, List.pairwise_map.2 (hl.pw.imp fun {a b} h => by show a.at_ + 2 < b.at_ + 2; omega)⟩
    obtain ⟨g, hg, rfl⟩ := List.mem_map.1 hf
    have := hl.rng g hg
    show 0 < g.at_ + 2
    omega
  · rw [hm.mem, memL_amp, List.mem_cons, List.mem_map]
    constructor
    · rintro (h | ⟨g, hg, h⟩)
      · exact .inl h
      · exact .inr ⟨g, (hl.mem g).2 hg, h.symm⟩
    · rintro (h | ⟨g, hg, h⟩)
      · exact .inl h
      · exact .inr ⟨g, (hl.mem g).1 hg, h.symm⟩
end Go.Proofs.YtpnbkecchfhimaaGreatDoor

/- out of LiLaid -/
namespace Go.Proofs.YtpnbkecchfhimaaGreatDoor
open Go.RowKit Go.Shelf
set_option linter.unusedVariables false
set_option maxRecDepth 100000
theorem tabSp_of {W : World} {rest : List (String × DataW Unit)} (h : laidMet Tryz.prog (("strings.asciiSpace", Lib.tabData .u8 Lib.asciiSpaceTab) :: rest) W) : TabSp W :=
  Lib.tabIs_of_head (g := 3) (t := 244) (e := 5) (n := 256) (by kernel_rfl) (by kernel_rfl) Tryz.underlying244 Tryz.underlying5 (by kernel_rfl) (by kernel_rfl) h
theorem sp_lintRises {W : World} (h : laidMetH Tryz.prog Rows.lintRisesRow.laid W) : TabSp W := by
  rw [MakeChecks.laidMetH_plain _ _ _ (by kernel_rfl)] at h
  exact tabSp_of h.tail.tail.tail.tail.tail.tail
theorem sp_lintPrints {W : World} (h : laidMetH Tryz.prog Rows.lintPrintsRow.laid W) : TabSp W ∧ Tab19 W := by
  rw [MakeChecks.laidMetH_plain _ _ _ (by kernel_rfl)] at h
  exact ⟨tabSp_of h.tail.tail.tail.tail.tail.tail, tab_of19 h.tail.tail⟩
theorem sp_lintPlain {W : World} (h : laidMetH Tryz.prog Rows.lintPlainRow.laid W) : TabSp W := by
  rw [MakeChecks.laidMetH_plain _ _ _ (by kernel_rfl)] at h
  exact tabSp_of h.tail.tail.tail.tail.tail.tail
theorem Tab19.below {w w' : World} {B : Nat} (h : Tab19 w) (hb : Below B w w') (hB : w.heap.size ≤ B) : Tab19 w' := by
  unfold Tab19 Lib.TabIs World.var? at *
  cases hg : Tryz.prog.globalNamed "internal/strconv.uint64pow10" with
  | none => simp [hg] at h
  | some g =>
    simp only [hg, Option.bind_some] at h ⊢
    have hlt : g < w.heap.size := by
      rcases Nat.lt_or_ge g w.heap.size with h' | h'
      · exact h'
      · rw [Array.getElem?_eq_none h'] at h; simp at h
    rw [hb.block g (by omega)]
    exact h
theorem itoa_all (n : Int) (h0 : -9223372036854775808 ≤ n) (h1 : n ≤ 9223372036854775807) (w : World) (ht : Tab19 w) : Calls Tryz.prog 50 #[.int .i64 n] w fun e w' => e = .returned (.string (itoaB n)) ∧ Below w.heap.size w w' := by
  refine (Any.strconv_Itoa (P := Tryz.prog) Tryz.laysHx171 n h0 h1 w ht).mono ?_
  rintro e w' ⟨rfl, k, os, hw⟩
  refine ⟨rfl, ?_⟩
  rw [hw]
  exact Lib.below_grow _ _ (Nat.le_refl _) _ _
end Go.Proofs.YtpnbkecchfhimaaGreatDoor
