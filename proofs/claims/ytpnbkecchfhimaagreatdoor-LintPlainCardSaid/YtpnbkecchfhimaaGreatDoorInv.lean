/- A region that draws its order, by an invariant over what has come up. -/
import Derived.WalkKit
import Derived.Orders
namespace Go.Proofs.YtpnbkecchfhimaaGreatDoor

/-- A post whose normal end is another's. -/
def nq (Q : Exit → Act → World → Prop) (K : Act → World → Prop) : Exit → Act → World → Prop
  | .normal, a, w => K a w
  | .ret, a, w => Q .ret a w
  | .panic c, a, w => Q (.panic c) a w
  | .exit i, a, w => Q (.exit i) a w
  | .goto l, a, w => Q (.goto l) a w
  | .outgrown, a, w => Q .outgrown a w

section
variable {P : Program} {ops : Array Oper} {Q : Exit → Act → World → Prop} {md : Region.Mode}

theorem wp_nq {o : Oper} {a : Act} {w : World} {K K' : Act → World → Prop} (h : o.wp P a w K (nq Q K')) : o.wp P a w K Q := by
  unfold Oper.wp at *
  generalize (execOp a.eval o).run P w = r at *
  cases r with
  | ok n w' => cases n <;> exact h
  | halt x w' => cases x <;> exact h

theorem wpOp_of_list {i : Nat} {o : Oper} {a : Act} {w : World} {K : Act → World → Prop} (hi : ops[i]? = some o) (h : wpList P ops (nq Q K) [o] a w) : wpOp P ops Q i K a w := by
  unfold wpOp
  simp only [hi]
  unfold wpList at h
  split at h
  · rename_i hw
    rw [if_pos hw]
    rcases h with h | ⟨h1, h2⟩
    · exact .inl (wp_nq (Oper.wp_mono (fun _ _ h => h) h))
    · exact .inr ⟨h1, h2⟩
  · rename_i hw
    rw [if_neg hw]
    exact h

/-- Each edge goes to one ahead of it. -/
def aheadB (md : Region.Mode) (ops : Array Oper) : Bool := (List.range ops.size).all fun i => ((ops[i]?).map (·.after.all fun e => !Region.binds md e || decide (e.on < i))).getD true

theorem ready_nil {listed : Array Bool} (hs : listed.size = ops.size) (ha : aheadB md ops = true) (h : Region.ready md ops listed = []) : ∀ i, i < ops.size → listed.getD i false = true := by
  intro i
  induction i using Nat.strongRecOn with
  | ind i ih =>
    intro hi
    cases hb : listed.getD i false with
    | true => rfl
    | false =>
      exfalso
      have hm : i ∈ Region.ready md ops listed := by
        rw [mem_ready]
        refine ⟨?_, ops[i], Array.getElem?_eq_getElem hi, fun e he hb => ?_⟩
        · have hl : i < listed.size := by omega
          simp [hl] at hb ⊢
          exact hb
        · have h1 := List.all_eq_true.1 ha i (by simpa using hi)
          rw [Array.getElem?_eq_getElem hi] at h1
          simp only [Option.map_some, Option.getD_some, Array.all_eq_true_iff_forall_mem] at h1
          have h2 := h1 e he
          rw [hb] at h2
          simp only [Bool.not_true, Bool.false_or, decide_eq_true_eq] at h2
          exact ih e.on h2 (by omega)
      rw [h] at hm
      cases hm

theorem wpAny_inv (I : Array Bool → Act → World → Prop) (ha : aheadB md ops = true)
    (hstep : ∀ listed a w i o, I listed a w → ops[i]? = some o → listed.getD i true = false → (∀ e ∈ o.after, Region.binds md e = true → listed.getD e.on false = true) →
      wpList P ops (nq Q (I (listed.setIfInBounds i true))) [o] a w)
    (hend : ∀ listed a w, I listed a w → (∀ i, i < ops.size → listed.getD i false = true) → Q .normal a w) :
    ∀ (fuel : Nat) (listed : Array Bool) (a : Act) (w : World), listed.size = ops.size → (∀ i, ¬ i < fuel → True) → (listed.toList.count false ≤ fuel) → I listed a w → wpAny P md ops Q fuel listed a w
  | 0, listed, a, w, hs, _, hc, hI => by
    have hall : ∀ i, i < ops.size → listed.getD i false = true := by
      intro i hi
      cases hb : listed.getD i false with
      | true => rfl
      | false =>
        exfalso
        have hl : i < listed.size := by omega
        have hm : false ∈ listed.toList := by
          simp [hl] at hb
          rw [← hb]
          simp
        have := List.count_pos_iff.2 hm
        omega
    refine ⟨?_, hend listed a w hI hall⟩
    rw [List.eq_nil_iff_forall_not_mem]
    intro i hi
    obtain ⟨h1, o, ho, _⟩ := mem_ready.1 hi
    have hlt := (Array.getElem?_eq_some_iff.1 ho).1
    have := hall i hlt
    have hl : i < listed.size := by omega
    simp [hl] at h1 this
    rw [h1] at this
    cases this
  | fuel + 1, listed, a, w, hs, _, hc, hI => by
    refine ⟨fun h => hend listed a w hI (ready_nil hs ha h), fun i hi => ?_⟩
    obtain ⟨h1, o, ho, h3⟩ := mem_ready.1 hi
    have hlt := (Array.getElem?_eq_some_iff.1 ho).1
    have hl : i < listed.size := by omega
    refine wpOp_mono (fun a' w' h => ?_) (wpOp_of_list ho (hstep listed a w i o hI ho h1 h3))
    refine wpAny_inv I ha hstep hend fuel _ a' w' (by simp [hs]) (fun _ _ => trivial) ?_ h
    have hget : listed.toList[i]'(by simpa using hl) = false := by simp [hl] at h1; simpa using h1
    rw [Array.toList_setIfInBounds, List.count_set (by simpa using hl)]
    have hpos : 0 < listed.toList.count false := List.count_pos_iff.2 (by rw [← hget]; exact List.getElem_mem _)
    rw [hget]
    simp only [beq_self_eq_true, if_true]
    have : ((true == false) = true) = False := by decide
    simp only [this, if_false]
    omega

theorem wp_region_inv {id : Nat} {l : List Oper} {a : Act} {w : World} (I : Array Bool → Act → World → Prop) (hm : P.follows .mixedOrders = true) (ha : aheadB .any l.toArray = true)
    (h0 : I (Array.replicate l.length false) a { w with drawn := w.drawn + 1 })
    (hstep : ∀ listed a w i o, I listed a w → l[i]? = some o → listed.getD i true = false → (∀ e ∈ o.after, Region.binds .any e = true → listed.getD e.on false = true) →
      wpList P l.toArray (nq Q (I (listed.setIfInBounds i true))) [o] a w)
    (hend : ∀ listed a w, I listed a w → (∀ i, i < l.length → listed.getD i false = true) → Q .normal a w) : (Code.region id l.toArray true).wp P Q a w :=
  wp_region_any hm (wpAny_inv I ha (fun listed a w i o hI ho => hstep listed a w i o hI (by simpa using ho)) (fun listed a w hI h => hend listed a w hI (by simpa using h)) _ _ _ _ (by simp) (fun _ _ => trivial) (by simp) (by simpa using h0))
end
end Go.Proofs.YtpnbkecchfhimaaGreatDoor
