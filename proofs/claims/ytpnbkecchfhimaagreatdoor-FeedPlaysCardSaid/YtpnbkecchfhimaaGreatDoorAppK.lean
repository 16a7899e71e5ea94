/- An append that leaves the old row's block as it was, or keeps the row's head. Of no program. -/
import Derived.Test.YtpnbkecchfhimaaGreatDoorWords
import Derived.Maps.AppendAt
import Derived.Maps.OwnIn
namespace Go.Proofs.YtpnbkecchfhimaaGreatDoor
open Go.RowKit
set_option linter.unusedVariables false
section
variable {P : Program} (w : World)
/-- The first k cells of each block of cells of a type stay. -/
def HeadK (e : TypeId) (k : Nat) (A B : World) : Prop := ∀ (q : Nat) (cs : Array Value) (fr : Nat × Nat), A.heap[q]? = some (.cells cs e fr) → ∃ (cs' : Array Value) (fr' : Nat × Nat), B.heap[q]? = some (.cells cs' e fr') ∧ ∀ j, j < k → cs'[j]? = cs[j]?
theorem HeadK.refl (e : TypeId) (k : Nat) (A : World) : HeadK e k A A := fun q cs fr h => ⟨cs, fr, h, fun _ _ => rfl⟩
theorem HeadK.trans {e : TypeId} {k : Nat} {A B C : World} (h : HeadK e k A B) (g : HeadK e k B C) : HeadK e k A C := fun q cs fr hq => by
  obtain ⟨cs1, fr1, h1, h2⟩ := h q cs fr hq
  obtain ⟨cs2, fr2, h3, h4⟩ := g q cs1 fr1 h1
  exact ⟨cs2, fr2, h3, fun j hj => (h4 j hj).trans (h2 j hj)⟩
theorem HeadK.of_below {e : TypeId} {k : Nat} {A B : World} (h : Below A.heap.size A B) : HeadK e k A B := fun q cs fr hq => ⟨cs, fr, (h.block q (Array.getElem?_eq_some_iff.1 hq).1).trans hq, fun _ _ => rfl⟩
theorem HeadK.of_grown {e : TypeId} {k : Nat} {A B : World} (h : A.grownBy B none) : HeadK e k A B := fun q cs fr hq => ⟨cs, fr, (h.block q (Array.getElem?_eq_some_iff.1 hq).1 (fun e => by cases e)).trans hq, fun _ _ => rfl⟩
theorem HeadK.set_far {e : TypeId} {k : Nat} (W : World) (p : Addr) (v : Value) (t : TypeId) (cs : Array Value) (h : Blk W p.block t cs) (hne : t ≠ e) : HeadK e k W (W.setCell p v) := fun q c2 fr hq => by
  refine ⟨c2, fr, (Below.heap_setCell W p v q (fun eq => ?_)).trans hq, fun _ _ => rfl⟩
  subst eq
  unfold Blk at h
  rw [h] at hq
  injection hq with hq
  injection hq with _ h2
  exact hne h2
theorem run_append_keep (base : Nat) (t ty e : TypeId) (i : TypeInfo) (z : Value) (size bytes : Nat) (ht : P.underlying t = some (.slice e)) (hi : P.info? e = some i) (hz : i.zero = some z)
    (hsize : i.size = size) (hby : i.bytes = bytes) (hzs : z.cells.size = size) (hsz : 0 < size)
    (v : Value) (n : Nat) (xs : List Value) (hown : w.ownsRow base e size v n xs)
    (a : Addr) (m c : Nat) (news : List Value) (hl : news.length = m * size) (hnews : ∀ j u, news[j]? = some u → w.cell? (a.add j) = some u) (h1 : ∀ u ∈ news, u.oneCell' = true)
    (h63 : n + m ≤ maxLen) (hbytes : (n + m) * bytes ≤ 140737488355328) (hbase : base ≤ w.heap.size) (hn0 : v = .slice none 0 0 ↔ n = 0) :
    ∃ v' w', (Builtin.append_ #[t, t] ty #[v, .slice (some a) m c]).run P w = .ok v' w' ∧ w'.ownsRow base e size v' (n + m) (xs ++ news) ∧ w.grownBy w' v.ownBlock ∧
      (v' = .slice none 0 0 ↔ v = .slice none 0 0 ∧ m = 0) ∧ HeadK e size w w' := by
  obtain ⟨v', w', hr, h2, h3, h4, h5⟩ := run_append_own_at (P := P) w base t ty e i z size bytes ht hi hz hsize hby hzs hsz v n xs hown a m c news hl hnews h1 h63 hbytes hbase
  refine ⟨v', w', hr, h2, h3, h4, ?_⟩
  subst hsize
  subst hby
  have hsmall : n + m ≤ 9223372036854775807 := by simp only [maxLen] at h63; omega
  rcases hown.2 with ⟨rfl, rfl⟩ | ⟨g, cap, cur, rfl, hbg, hg, hnc, hcm, hcs, htake⟩
  · exact HeadK.of_grown h3
  · have hgl : g < w.heap.size := (Array.getElem?_eq_some_iff.1 hg).1
    by_cases hroom : n + m ≤ cap
    · have hn1 : 1 ≤ n := by
        rcases Nat.eq_zero_or_pos n with h0 | h0
        · have := hn0.2 h0
          cases this
        · exact h0
      have hfit : n * i.size + news.length ≤ cur.size := by rw [hl, hcs, ← Nat.add_mul]; exact Nat.mul_le_mul_right _ hroom
      have hr2 := run_append_room (P := P) w t ty e i ht hi g n cap cur hg a m c news hl hnews h1 hroom hfit
      rw [hr2] at hr
      injection hr with e1 e2
      subst e1
      rcases h2.2 with ⟨h, _⟩ | ⟨g2, cap2, cur2, e3, _, hg2, _, _, _, htake2⟩
      · cases h
      injection e3 with e3
      injection e3 with e3
      injection e3 with e3 _ _
      subst e3
      intro q cs fr hq
      by_cases hqg : q = g
      · subst hqg
        rw [hg] at hq
        injection hq with hq
        injection hq with q1 q2 q3
        subst q1
        refine ⟨cur2, (0, 0), hg2, fun j hj => ?_⟩
        have hjn : j < n * i.size := Nat.lt_of_lt_of_le hj (Nat.le_mul_of_pos_left _ hn1)
        have t1 : cur.toList[j]? = xs[j]? := by rw [← htake, List.getElem?_take, if_pos hjn]
        have hxl := hown.1
        have t2 : cur2.toList[j]? = xs[j]? := by
          have := congrArg (fun l => l[j]?) htake2
          simp only [List.getElem?_take] at this
          rw [if_pos (by rw [Nat.add_mul]; omega), List.getElem?_append_left (by omega)] at this
          exact this
        simpa using t2.trans t1.symm
      · exact ⟨cs, fr, (h3.block q (Array.getElem?_eq_some_iff.1 hq).1 (fun e => hqg (by simpa [Value.ownBlock] using e))).trans hq, fun _ _ => rfl⟩
    · have holds : ∀ j u, xs[j]? = some u → w.cell? ((⟨g, 0, none⟩ : Addr).add j) = some u := hown.cells (g := g) rfl
      have hr2 := run_append_grow (P := P) w t ty e i z ht hi hz ⟨g, 0, none⟩ n cap xs hown.1 holds a m c news hl hnews (by omega) (by omega) (growslice_fits (by omega) hbytes)
      rw [hr2] at hr
      injection hr with e1 e2
      subst e2
      exact HeadK.of_grown ⟨rfl, rfl, rfl, by simp, fun k hk _ => Below.heap_alloc w.drew _ k hk⟩
theorem wpListIn_append_keep {F : Fence} {nF : Nat} {ops : Array Oper} {rest : List Oper} {o : Oper} {a : Act} {Q : Exit → Act → World → Prop} (hgd : o.guard = none) (s x : Operand) (t : TypeId)
    (ho : o.op = .call { callee := .builtin .append, args := #[s, x], argTypes := #[t, t] })
    (base : Nat) (e : TypeId) (i : TypeInfo) (z : Value) (size bytes : Nat) (ht : P.underlying t = some (.slice e)) (hi : P.info? e = some i) (hz : i.zero = some z)
    (hsize : i.size = size) (hby : i.bytes = bytes) (hzs : z.cells.size = size) (hsz : 0 < size)
    (v : Value) (n : Nat) (xs : List Value) (hs : a.eval s = v) (hown : w.ownsRow base e size v n xs)
    (ad : Addr) (m c : Nat) (news : List Value) (hx : a.eval x = .slice (some ad) m c) (hl : news.length = m * size) (hnews : ∀ j u, news[j]? = some u → w.cell? (ad.add j) = some u) (h1 : ∀ u ∈ news, u.oneCell' = true)
    (h63 : n + m ≤ maxLen) (hbytes : (n + m) * bytes ≤ 140737488355328) (hbase : base ≤ w.heap.size) (hn0 : v = .slice none 0 0 ↔ n = 0)
    (h : ∀ v' w', w'.ownsRow base e size v' (n + m) (xs ++ news) → w.grownBy w' v.ownBlock → (v' = .slice none 0 0 ↔ v = .slice none 0 0 ∧ m = 0) → HeadK e size w w' → wpListIn F nF P ops Q rest (a.put o.dst v') w') :
    wpListIn F nF P ops Q (o :: rest) a w := by
  refine wpListIn_plain hgd fun K hK => ?_
  obtain ⟨v', w', hr, h2, h3, h4, h5⟩ := run_append_keep (P := P) w base t o.type e i z size bytes ht hi hz hsize hby hzs hsz v n xs hown ad m c news hl hnews h1 h63 hbytes hbase hn0
  unfold Oper.wpIn
  refine ⟨by simp [Oper.about, ho, resolve, Target.leads, Sem.run_pure], ?_⟩
  rw [Oper.semAt_plain F _ _ (by rw [ho]; intro c hc'; cases hc')]
  simp [execOp, ho, resolve, invoke, builtin, hs, hx, hr, Result.andThen]
  exact hK _ _ (h v' w' h2 h3 h4 h5)
end
end Go.Proofs.YtpnbkecchfhimaaGreatDoor
