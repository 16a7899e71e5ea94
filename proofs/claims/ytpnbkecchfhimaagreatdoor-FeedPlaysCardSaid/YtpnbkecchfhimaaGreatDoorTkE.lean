/- Chapter 19: the iterator over tokens: its contract. -/
import Derived.RangeFuncNested
import Derived.RangeFuncBound
import Derived.RangeFuncCalls
import Derived.RangeFuncLeaves
import Derived.RangeFuncBox
import Derived.Shelf.Abstract
import Derived.Shelf.RegionOpen
import Derived.WalkKit
import Derived.OwnWalkIn
import Derived.TacticsInMore
import Derived.LoopNIn
import Derived.LoopIn
import Derived.Maps.AppendAt
import Derived.Test.YtpnbkecchfhimaaGreatDoorProg
import Derived.Test.YtpnbkecchfhimaaGreatDoorTkD
import Derived.Test.YtpnbkecchfhimaaGreatDoorAppK
import Derived.Sort.CutIn
namespace Go.Proofs.YtpnbkecchfhimaaGreatDoor
open Go.RowKit Go.Shelf
open Go.Lib (hid)
attribute [local go_sem] Oper.semAt_some
set_option linter.unusedVariables false
set_option maxRecDepth 100000

/-- A token of these bytes. -/
abbrev TkOf (s : ByteArray) := { t : Tk // t ∈ toks s }
def encTk (t : Tk) : Value := .agg (tkC t)
def encsTk (s : ByteArray) (x : TkOf s) : Array Value := #[encTk x.1]
theorem subTk_ext {L : List Tk} : ∀ (xs ys : List { p : Tk // p ∈ L }), xs.map (·.1) = ys.map (·.1) → xs = ys
  | [], [], _ => rfl
  | [], _ :: _, h => by simp at h
  | _ :: _, [], h => by simp at h
  | x :: xs, y :: ys, h => by
    simp only [List.map_cons, List.cons.injEq] at h
    rw [subTk_ext xs ys h.2, Subtype.ext h.1]
theorem HeadK.putObj {e : TypeId} {k : Nat} (W : World) (l : Nat) (o o' : Obj) (h : W.heap[l]? = some o) (h1 : o.isCells = false) : HeadK e k W (W.putObj l o') := fun q cs fr hq => by
  refine ⟨cs, fr, (World.putObj_heap_other (fun e => ?_)).trans hq, fun _ _ => rfl⟩
  subst e
  rw [h] at hq
  injection hq with hq
  rw [hq] at h1
  cases h1
/-- What a round keeps: what lay below n₀; the iterator's own box; each token's cells. -/
def KpT (n₀ Bn : Nat) (A B : World) : Prop := Below n₀ A B ∧ B.heap[Bn]? = A.heap[Bn]? ∧ HeadK 29 6 A B
theorem KpT.refl (n₀ Bn : Nat) (A : World) : KpT n₀ Bn A A := ⟨Below.refl _ _, rfl, HeadK.refl _ _ _⟩
theorem KpT.trans {n₀ Bn : Nat} {A B C : World} (h : KpT n₀ Bn A B) (k : KpT n₀ Bn B C) : KpT n₀ Bn A C := ⟨h.1.trans k.1, k.2.1.trans h.2.1, h.2.2.trans k.2.2⟩
theorem KpT.of_below {n₀ Bn : Nat} {A B : World} (h : Below A.heap.size A B) (h0 : n₀ ≤ A.heap.size) (h1 : Bn < A.heap.size) : KpT n₀ Bn A B := ⟨h.mono h0, h.block Bn h1, HeadK.of_below h⟩
theorem KpT.putObj {n₀ Bn : Nat} {w : World} (hn : n₀ ≤ w.heap.size) (hB : Bn < w.heap.size) (W : World) (l : Nat) (o o' : Obj) (hl : w.heap.size ≤ l) (h : W.heap[l]? = some o) (h1 : o.isCells = false) (h2 : o.isWalk = false) : KpT n₀ Bn W (W.putObj l o') :=
  ⟨belowK_b hn W l o o' hl h h1 h2, World.putObj_heap_other (by omega), HeadK.putObj W l o o' h h1⟩
/-- A token's cells behind a round. -/
theorem KpT.tok {n₀ Bn : Nat} {A B : World} (h : KpT n₀ Bn A B) {q : Nat} {t : Tk} (hq : Blk A q 29 (tkC t)) : q < B.heap.size ∧ ∀ j, j < 6 → B.cell? ⟨q, j, none⟩ = (tkC t)[j]? := by
  obtain ⟨cs, fr, h1, h2⟩ := h.2.2 q _ _ hq
  exact ⟨(Array.getElem?_eq_some_iff.1 h1).1, fun j hj => (cell_of_row _ _ _ _ _ _ h1).trans (h2 j hj)⟩
theorem tokens_any (v : Value) (a : Option Addr) (len cap : Nat) (hv : v = .slice a len cap) (w : World) : Calls Tryz.prog 38 #[v] w fun e w' => e = .returned (.func (.func 64) #[] #[.pointer (some ⟨w.heap.size, 0, none⟩)]) ∧ w' = w.alloc (.cells #[v] 22) := by
  subst hv
  go_enter Tryz.func38, Tryz.ntmps38
  go_wp2
  go_ret
  exact ⟨rfl, rfl⟩
theorem pre_of {s : ByteArray} {pre : List (TkOf s)} {x : TkOf s} {L : List Tk} (h : (pre ++ [x]).map (·.1) ++ L = toks s) : (pre ++ [x]) <+: (toks s).attach := by
  refine ⟨(toks s).attach.drop (pre.length + 1), subTk_ext _ _ ?_⟩
  have e1 : ((toks s).attach.drop (pre.length + 1)).map (·.1) = (toks s).drop (pre.length + 1) := by rw [List.map_drop]; simp
  rw [List.map_append, e1]
  have e2 : (toks s).attach.map (·.1) = toks s := by simp
  rw [e2]
  conv => rhs; rw [← h]
  congr 1
  rw [← h]
  rw [List.drop_append_of_le_length (by simp)]
  simp
theorem sSetT_blk {w : World} {r : Nat} {t0 : Tk} {k f t : Int} {nm : ByteArray} {z : Int} {sg : Bool} (h : Blk w r 29 (tkC t0)) : Blk (sSet w r k f t nm z sg) r 29 #[.int .i64 k, .int .i64 f, .int .i64 t, .string nm, .int .i32 z, .bool sg] := by
  have := (((((h.set_ 0 (.int .i64 k)).set_ 1 (.int .i64 f)).set_ 2 (.int .i64 t)).set_ 3 (.string nm)).set_ 4 (.int .i32 z)).set_ 5 (.bool sg)
  unfold sSet
  simpa [tkC] using this
theorem stpT_len (s : ByteArray) (i : Nat) : 1 ≤ (stpT s i).1.length := by
  unfold stpT
  split
  · exact Nat.le_refl _
  · split
    · show 1 ≤ 2; decide
    · exact Nat.le_refl _
set_option maxHeartbeats 16000000 in
theorem tokens1_in (n : Nat) (l Bn n₀ : Nat) (a : Option Addr) (len cap : Nat) (s : ByteArray) (J Jx : List (TkOf s) → World → Prop)
    (hY : ∀ pre x W, J pre W → pre.length < (toks s).length → YieldAt Fence.wide (n - 1) Tryz.prog l (encsTk s x) W fun e W' =>
      (e = .returned (.bool true) ∧ J (pre ++ [x]) W' ∧ KpT n₀ Bn W W') ∨ (e = .returned (.bool false) ∧ Jx (pre ++ [x]) W'))
    (W : World) (hJ : ∀ s A B, J s A → Below A.heap.size A B → J s B) (hn0 : n₀ ≤ W.heap.size) (hBl : Bn < W.heap.size) (hBn : W.cell? ⟨Bn, 0, none⟩ = some (.slice a len cap)) (hlen : len = s.size) (hm : len ≤ 1000000)
    (hBA : ∀ A, Below n₀ W A → BA A a len cap s ∧ Mx A) (h0 : J [] W) :
    CallsIn Fence.wide n Tryz.prog 64 #[.func (.yield l) #[] #[], .pointer (some ⟨Bn, 0, none⟩)] W fun e W' => (∃ v, e = .returned v) ∧
      ((∃ ys, ys = (toks s).attach ∧ J ys W') ∨ (∃ pre, pre <+: (toks s).attach ∧ Jx pre W')) := by
  have HLN := hid hlen
  have HJ := hid hJ
  have HY := hid hY
  have H0 := hid h0
  have HBA := hid hBA
  have hcap : len ≤ cap := (hBA W (Below.refl _ _)).1.2.1
  clear hJ hY h0 hBA hlen
  refine callsIn_of_wp Tryz.func64 rfl trivial ?_ rfl
  simp only [Tryz.ntmps64, List.size_toArray, List.length_cons, List.length_nil, Nat.reduceAdd, Nat.reduceSub, Array.replicate_succ, Array.replicate_zero, List.push_toArray, List.append_toArray, List.nil_append, List.cons_append]
  gi_wp2
  gi_loopw [3] (fun s3 wr => ∃ (i : Nat) (pre : List (TkOf s)), s3 = .int .i64 i ∧ i ≤ len ∧ Hid (pre.map (·.1) ++ toksAt s i = toks s) ∧ Hid (J pre wr) ∧ Hid (Below n₀ W wr) ∧ Hid (wr.heap[Bn]? = W.heap[Bn]?))
    (fun s3 _ => len - (intOf s3).toNat)
  case atStart =>
    exact ⟨0, [], rfl, Nat.zero_le _, rfl, H0.out, Below.refl _ _, rfl⟩
  case round =>
    obtain ⟨i, pre, rfl, hi, HP, HJ1, HB, HBN⟩ := hrel
    have hc : wr.cell? ⟨Bn, 0, none⟩ = some (.slice a len cap) := (World.cell?_of_block (w := W) (a := ⟨Bn, 0, none⟩) HBN.out).trans hBn
    by_cases hlt : i < len
    · have hlt' : (i : Int) < (len : Int) := by omega
      have hil : i < s.size := by rw [← HLN.out]; exact hlt
      obtain ⟨hba, hmx⟩ := HBA.out wr HB.out
      have HRD := hid (special_any a len cap i s wr hba hm hlt hmx)
      have hws := HB.out.size
      have hwn0 : n₀ ≤ wr.heap.size := by omega
      have hwbl : Bn < wr.heap.size := by omega
      clear hba hmx
      gi_wp2_with fail
      refine ⟨trivial, (fun h => by cases h), (callsIn_wide.2 HRD.out).mono ?_⟩
      rintro e w2 ⟨t, fo, rfl, hsp, hb2⟩
      have HSP := hid hsp
      have HB2 := hid hb2
      have hs2 := hb2.size
      have hc2 : w2.cell? ⟨Bn, 0, none⟩ = some (.slice a len cap) := (hb2.cell (p := ⟨Bn, 0, none⟩) hwbl).trans hc
      have HB3 := hid (hb2.alloc hs2 (.cells (tkC t) 29))
      have HK3 := hid (Blk.new w2 29 (tkC t))
      have hc3 : (w2.alloc (.cells (tkC t) 29)).cell? ⟨Bn, 0, none⟩ = some (.slice a len cap) := (HB3.out.cell (p := ⟨Bn, 0, none⟩) hwbl).trans hc
      clear hsp hb2 hc hc2 HRD
      have hplen : pre.length < (toks s).length := by
        rw [← HP.out, toksAt_step hil]
        have := stpT_len s i
        simp
        omega
      have HPL := hid hplen
      clear hplen
      cases hs : specA s i with
      | none =>
        have hsb : specB s i = false := by unfold specB; rw [hs]; rfl
        have hst := toksAt_text hil hs
        obtain ⟨hba3, hmx3⟩ := HBA.out _ (HB.out.trans (HB3.out.mono hwn0))
        have HT := hid (text_any a len cap i s _ hba3 hm hlt hmx3)
        have htb : i < textE s i ∧ textE s i ≤ len := by
          have h1 := scanTo_ge (specB s) s.size (i + 1)
          have h2 := scanTo_le (specB s) (n := s.size) (i := i + 1) (by omega)
          have := HLN.out
          unfold textE
          omega
        generalize textE s i = k at *
        rw [hsb]
        have hmem : textTk i k ∈ toks s := by rw [← HP.out, hst]; simp
        have HP2 : Hid ((pre ++ [(⟨textTk i k, hmem⟩ : TkOf s)]).map (·.1) ++ toksAt s k = toks s) := by
          refine Eq.trans ?_ HP.out
          rw [hst]; simp
        clear hs hsb hba3 hmx3 hst HP HSP
        simp only [tkC] at hc3
        unfold tkC
        gi_wp2_with fail
        refine ⟨trivial, (fun h => by cases h), (callsIn_wide.2 HT.out).mono ?_⟩
        rintro e w4 ⟨rfl, hb4⟩
        have hk4 := HK3.out.below hb4 HK3.out.lt
        have y0 := hk4.cell 0
        have y1 := hk4.cell 1
        have y2 := hk4.cell 2
        have y3 := hk4.cell 3
        have y4 := hk4.cell 4
        have y5 := hk4.cell 5
        have yf := hk4.frozen
        simp only [tkC, List.getElem?_toArray, List.getElem?_cons_zero, List.getElem?_cons_succ] at y0 y1 y2 y3 y4 y5
        have HB5 := hid (sSet_below (k := 0) (f := i) (t := k) (nm := ⟨#[]⟩) (z := 0) (sg := false) hs2 (HB3.out.trans (hb4.mono HB3.out.size)))
        have HK5 := hid (sSetT_blk (k := 0) (f := i) (t := k) (nm := ⟨#[]⟩) (z := 0) (sg := false) hk4)
        clear hk4 hb4 hc3
        gi_upto_region 5 with fail
        change Code.wpIn _ _ _ _ _ _ (sSet w4 w2.heap.size 0 i k ⟨#[]⟩ 0 false)
        generalize sSet w4 w2.heap.size 0 i k ⟨#[]⟩ 0 false = w5 at *
        clear y0 y1 y2 y3 y4 y5 yf
        have y0 := HK5.out.cell 0
        have y1 := HK5.out.cell 1
        have y2 := HK5.out.cell 2
        have y3 := HK5.out.cell 3
        have y4 := HK5.out.cell 4
        have y5 := HK5.out.cell 5
        have yf := HK5.out.frozen
        simp only [List.getElem?_toArray, List.getElem?_cons_zero, List.getElem?_cons_succ] at y0 y1 y2 y3 y4 y5
        obtain ⟨fn, tmps, assign, body, hy, hR⟩ := HY.out pre ⟨textTk i k, hmem⟩ w5 (HJ.out _ _ _ HJ1.out HB5.out) HPL.out
        simp only [encsTk, encTk, tkC, textTk, noB] at hy
        gi_wp2
        refine ⟨(fun h => by cases h), hR.mono ?_⟩
        have hs5 := HB5.out.size
        rintro e W3 (⟨rfl, hJ3, hk3⟩ | ⟨rfl, hJx3⟩)
        · have HJ3 := hid hJ3
          have HK3 := hid hk3
          obtain ⟨hql, hqc⟩ := hk3.tok (t := textTk i k) HK5.out
          have z2 : W3.cell? ⟨w2.heap.size, 2, none⟩ = some (.int .i64 (k : Int)) := hqc 2 (by decide)
          clear hJ3 hk3 hqc y0 y1 y2 y3 y4 y5 yf
          gi_wp2
          go_roundw
          case rel => exact ⟨k, _, rfl, htb.2, HP2, HJ3.out, HB.out.trans ((HB5.out.mono hwn0).trans HK3.out.1), HK3.out.2.1.trans ((HB5.out.block Bn hwbl).trans HBN.out)⟩
          case measure => simp [intOf]; omega
        · have HJX3 := hid hJx3
          clear hJx3
          gi_wp2
          refine bodyPost_ret (results_none rfl _ _ _) rfl ?_
          exact ⟨⟨_, rfl⟩, .inr ⟨_, pre_of HP2.out, HJX3.out⟩⟩
      | some sp =>
        have hsb : specB s i = true := by unfold specB; rw [hs]; rfl
        obtain ⟨rfl, rfl⟩ := HSP.out sp hs
        have hbd := specA_bd hs
        have hmem : spTk i sp ∈ toks s := by
          rw [← HP.out, toksAt_step hil]
          unfold stpT
          rw [hs]
          simp only
          split <;> simp
        rw [hsb]
        obtain ⟨e, he⟩ : ∃ e, e = i + sp.size := ⟨_, rfl⟩
        have hee : e ≤ len := by have := HLN.out; omega
        have hie : i < e := by omega
        cases hraw : sp.raw
        · -- nothing raw behind it
          have HP2 : Hid ((pre ++ [(⟨spTk i sp, hmem⟩ : TkOf s)]).map (·.1) ++ toksAt s e = toks s) := by
            refine Eq.trans ?_ HP.out
            rw [toksAt_spec hil hs (fun h => by rw [hraw] at h; exact absurd h.1 (by decide)), he]; simp
          obtain ⟨kd, sz, nm, r, sg, rw_⟩ := sp
          simp only at hraw he
          subst hraw
          simp only [tkC, spTk] at hc3 HB3 HK3
          rw [← he] at HB3 HK3 hc3
          clear hs hsb hbd HSP
          unfold tkC spTk
          simp only
          rw [← he]
          have HE := hid he
          clear he
          gi_upto_region 5 with fail
          generalize w2.alloc (.cells #[.int .i64 kd, .int .i64 i, .int .i64 e, .string nm, .int .i32 r, .bool sg] 29) = w5 at *
          have y0 := HK3.out.cell 0
          have y1 := HK3.out.cell 1
          have y2 := HK3.out.cell 2
          have y3 := HK3.out.cell 3
          have y4 := HK3.out.cell 4
          have y5 := HK3.out.cell 5
          have yf := HK3.out.frozen
          simp only [List.getElem?_toArray, List.getElem?_cons_zero, List.getElem?_cons_succ] at y0 y1 y2 y3 y4 y5
          obtain ⟨fn, tmps, assign, body, hy, hR⟩ := HY.out pre ⟨spTk i ⟨kd, sz, nm, r, sg, false⟩, hmem⟩ w5 (HJ.out _ _ _ HJ1.out HB3.out) HPL.out
          simp only [encsTk, encTk, tkC, spTk] at hy
          rw [← HE.out] at hy
          gi_wp2
          refine ⟨(fun h => by cases h), hR.mono ?_⟩
          rintro e2 W3 (⟨rfl, hJ3, hk3⟩ | ⟨rfl, hJx3⟩)
          · have HJ3 := hid hJ3
            have HK4 := hid hk3
            obtain ⟨hql, hqc⟩ := hk3.tok (t := ⟨kd, i, e, nm, r, sg⟩) HK3.out
            have z2 : W3.cell? ⟨w2.heap.size, 2, none⟩ = some (.int .i64 (e : Int)) := hqc 2 (by decide)
            clear hJ3 hk3 hqc y0 y1 y2 y3 y4 y5 yf
            gi_wp2
            go_roundw
            case rel => exact ⟨e, _, rfl, hee, HP2, HJ3.out, HB.out.trans ((HB3.out.mono hwn0).trans HK4.out.1), HK4.out.2.1.trans ((HB3.out.block Bn hwbl).trans HBN.out)⟩
            case measure => simp [intOf]; omega
          · have HJX3 := hid hJx3
            clear hJx3
            gi_wp2
            refine bodyPost_ret (results_none rfl _ _ _) rfl ?_
            exact ⟨⟨_, rfl⟩, .inr ⟨_, pre_of HP2.out, HJX3.out⟩⟩
        · -- raw bytes may follow
          have hnm := (specA_raw hs hraw).2
          have hns : 0 < sp.name.size ∧ sp.name.size ≤ 1000000 := by rcases hnm with h | h <;> rw [h] <;> decide
          obtain ⟨re, hre⟩ : ∃ re, re = rawE s sp.name e := ⟨_, rfl⟩
          have hrb : e ≤ re ∧ re ≤ len := by
            have h1 := scanTo_ge (closesB s sp.name) s.size e
            have h2 := scanTo_le (closesB s sp.name) (n := s.size) (i := e) (by have := HLN.out; omega)
            have := HLN.out
            rw [hre]
            unfold rawE
            omega
          have hto : toksAt s i = if e < re then spTk i sp :: rawTk e re :: toksAt s re else spTk i sp :: toksAt s e := by
            rw [hre, he]
            split
            · rename_i h
              exact toksAt_raw hil hs ⟨hraw, h⟩
            · rename_i h
              exact toksAt_spec hil hs (fun k => h k.2)
          have HPP := hid HP.out
          rw [hto] at HPP
          have HRE := hid hre
          obtain ⟨kd, sz, nm, r, sg, rw_⟩ := sp
          simp only at hraw he hns HRE hre
          subst hraw
          simp only [tkC, spTk] at hc3 HB3 HK3 HPP
          have HE := hid he
          rw [← he] at HB3 HK3 hc3 HPP
          clear hs hsb hbd HSP hto hnm HP
          unfold tkC spTk
          simp only
          rw [← he]
          clear hre he
          gi_upto_region 5 with fail
          generalize w2.alloc (.cells #[.int .i64 kd, .int .i64 i, .int .i64 e, .string nm, .int .i32 r, .bool sg] 29) = w5 at *
          have y0 := HK3.out.cell 0
          have y1 := HK3.out.cell 1
          have y2 := HK3.out.cell 2
          have y3 := HK3.out.cell 3
          have y4 := HK3.out.cell 4
          have y5 := HK3.out.cell 5
          have yf := HK3.out.frozen
          simp only [List.getElem?_toArray, List.getElem?_cons_zero, List.getElem?_cons_succ] at y0 y1 y2 y3 y4 y5
          obtain ⟨fn, tmps, assign, body, hy, hR⟩ := HY.out pre ⟨spTk i ⟨kd, sz, nm, r, sg, true⟩, hmem⟩ w5 (HJ.out _ _ _ HJ1.out HB3.out) HPL.out
          simp only [encsTk, encTk, tkC, spTk] at hy
          rw [← HE.out] at hy
          gi_wp2
          refine ⟨(fun h => by cases h), hR.mono ?_⟩
          rintro e2 W3 (⟨rfl, hJ3, hk3⟩ | ⟨rfl, hJx3⟩)
          · have HJ3 := hid hJ3
            have HK4 := hid hk3
            obtain ⟨hql, hqc⟩ := hk3.tok (t := ⟨kd, i, e, nm, r, sg⟩) HK3.out
            have z2 : W3.cell? ⟨w2.heap.size, 2, none⟩ = some (.int .i64 (e : Int)) := hqc 2 (by decide)
            have z3 : W3.cell? ⟨w2.heap.size, 3, none⟩ = some (.string nm) := hqc 3 (by decide)
            have HB6 := hid (HB.out.trans ((HB3.out.mono hwn0).trans HK4.out.1))
            have HBN6 := hid (HK4.out.2.1.trans ((HB3.out.block Bn hwbl).trans HBN.out))
            have hc6 : W3.cell? ⟨Bn, 0, none⟩ = some (.slice a len cap) := (World.cell?_of_block (w := W) (a := ⟨Bn, 0, none⟩) HBN6.out).trans hBn
            obtain ⟨hba6, hmx6⟩ := HBA.out W3 HB6.out
            have HRW := hid (raw_any a len cap e s nm W3 hba6 hm hee hns.1 hns.2)
            rw [← HRE.out] at HRW
            have hs6 := HB6.out.size
            have hw6 : n₀ ≤ W3.heap.size := by omega
            have hb6 : Bn < W3.heap.size := by
              have := World.block_lt_of_cell? _ _ hc6
              exact this
            have HPQ := hid ((fun h => by
              have h0 := HPP.out
              rw [if_neg h] at h0
              refine Eq.trans ?_ h0
              rw [List.map_append]
              simp [spTk, HE.out]) : ¬ e < re → (pre ++ [(⟨spTk i ⟨kd, sz, nm, r, sg, true⟩, hmem⟩ : TkOf s)]).map (·.1) ++ toksAt s e = toks s)
            have HPR := hid ((fun h => by
              have h0 := HPP.out
              rw [if_pos h] at h0
              refine Eq.trans ?_ h0
              rw [List.map_append]
              simp [spTk, HE.out]) : e < re → (pre ++ [(⟨spTk i ⟨kd, sz, nm, r, sg, true⟩, hmem⟩ : TkOf s)]).map (·.1) ++ rawTk e re :: toksAt s re = toks s)
            clear hJ3 hk3 hqc y0 y1 y2 y3 y4 y5 yf hba6 hmx6 hc3
            gi_wp2_with fail
            refine ⟨trivial, (fun h => by cases h), (callsIn_wide.2 HRW.out).mono ?_⟩
            rintro e w7 ⟨rfl, hb7⟩
            have HB7 := hid hb7
            have hs7 := hb7.size
            clear hb7
            by_cases hlr : e < re
            · have hlr' : (e : Int) < (re : Int) := by omega
              have hpr := HPR.out hlr
              have hmem2 : rawTk e re ∈ toks s := by rw [← hpr]; simp
              have HP3 : Hid (((pre ++ [(⟨spTk i ⟨kd, sz, nm, r, sg, true⟩, hmem⟩ : TkOf s)]) ++ [(⟨rawTk e re, hmem2⟩ : TkOf s)]).map (·.1) ++ toksAt s re = toks s) := by
                refine Eq.trans ?_ hpr
                rw [List.map_append, List.map_append]
                simp
              have hpl2 : (pre ++ [(⟨spTk i ⟨kd, sz, nm, r, sg, true⟩, hmem⟩ : TkOf s)]).length < (toks s).length := by
                have hq := congrArg List.length hpr
                rw [List.length_append, List.length_map, List.length_cons] at hq
                omega
              clear hpr
              obtain ⟨fn, tmps, assign, body, hy, hR⟩ := HY.out _ ⟨rawTk e re, hmem2⟩ w7 (HJ.out _ _ _ HJ3.out HB7.out) hpl2
              simp only [encsTk, encTk, tkC, rawTk, noB] at hy
              clear hpl2
              gi_wp2
              refine ⟨(fun h => by cases h), hR.mono ?_⟩
              rintro e2 W8 (⟨rfl, hJ8, hk8⟩ | ⟨rfl, hJx3⟩)
              · have HJ8 := hid hJ8
                have HK8 := hid hk8
                clear hJ8 hk8
                gi_wp2
                go_roundw
                case rel => exact ⟨re, _, rfl, hrb.2, HP3, HJ8.out, HB6.out.trans ((HB7.out.mono hw6).trans HK8.out.1), HK8.out.2.1.trans ((HB7.out.block Bn hb6).trans HBN6.out)⟩
                case measure => simp [intOf]; omega
              · have HJX3 := hid hJx3
                clear hJx3
                gi_wp2
                refine bodyPost_ret (results_none rfl _ _ _) rfl ?_
                exact ⟨⟨_, rfl⟩, .inr ⟨_, pre_of HP3.out, HJX3.out⟩⟩
            · have hlr' : ¬ (e : Int) < (re : Int) := by omega
              have HP3 := hid (HPQ.out hlr)
              gi_wp2
              go_roundw
              case rel => exact ⟨e, _, rfl, hee, HP3, HJ.out _ _ _ HJ3.out HB7.out, HB6.out.trans (HB7.out.mono hw6), (HB7.out.block Bn hb6).trans HBN6.out⟩
              case measure => simp [intOf]; omega
          · have HP2 : Hid (∃ L, (pre ++ [(⟨spTk i ⟨kd, sz, nm, r, sg, true⟩, hmem⟩ : TkOf s)]).map (·.1) ++ L = toks s) := by
              have h0 := HPP.out
              split at h0
              · exact ⟨rawTk e re :: toksAt s re, by
                  refine Eq.trans ?_ h0
                  rw [List.map_append]
                  simp [spTk, HE.out]⟩
              · exact ⟨toksAt s e, by
                  refine Eq.trans ?_ h0
                  rw [List.map_append]
                  simp [spTk, HE.out]⟩
            have HJX3 := hid hJx3
            clear hJx3
            gi_wp2
            refine bodyPost_ret (results_none rfl _ _ _) rfl ?_
            exact ⟨⟨_, rfl⟩, .inr ⟨_, (by obtain ⟨L, hL⟩ := HP2.out; exact pre_of hL), HJX3.out⟩⟩
    · obtain rfl : i = len := by omega
      have hfin : pre = (toks s).attach := by
        have h := HP.out
        rw [toksAt_end (by rw [← HLN.out]; exact Nat.le_refl _), List.append_nil] at h
        exact subTk_ext _ _ (by rw [h]; simp)
      have HF := hid hfin
      clear hfin
      gi_wp2
      go_end0
      exact ⟨⟨_, rfl⟩, .inl ⟨pre, HF.out, HJ1.out⟩⟩
end Go.Proofs.YtpnbkecchfhimaaGreatDoor
