/- Chapter 23: a text's items: the walk. -/
import Derived.Test.YtlfbgaknljdanaaGreatDoorExK
namespace Go.Proofs.YtlfbgaknljdanaaGreatDoor
open Go.RowKit
open Go.Lib (hid)
set_option linter.unusedVariables false
set_option linter.unusedSimpArgs false
set_option maxRecDepth 100000

theorem sb_grown {w w' : World} {a : Option Addr} {cap g : Nat} {zs : List Int} (h : S1.SB w a cap zs) (hg : w.grownBy w' (some g)) (hne : ∀ b off, a = some ⟨b, off, none⟩ → b ≠ g) : S1.SB w' a cap zs := by
  obtain ⟨h1, h2, h3, h4⟩ := h
  refine ⟨h1, h2, h3, ?_⟩
  rcases h4 with h | ⟨b, off, ha, hlt, hr⟩
  · exact .inl h
  · refine .inr ⟨b, off, ha, Nat.lt_of_lt_of_le hlt hg.size, fun i hi => ?_⟩
    exact (hg.cell_far ⟨b, off + i, none⟩ hlt (by have := hne b off ha; simpa using this)).trans (hr i hi)
def it0 : Array Value := #[.int .i32 0, .int .i64 0, .int .i64 0, .bool false, .bool false, .bool false, .bool false]
theorem info_item : (Tryz.prog.info? 34).map (fun i => (i.zero, i.size, i.bytes)) = some (some (.agg it0), 7, 32) := by kernel_rfl
theorem isEmpty_snoc {α : Type} (l : List α) (x : α) : (l ++ [x]).isEmpty = false := by cases l <;> rfl
theorem readAt_eq {zs : List Int} {i : Nat} (h : i < zs.length) : S1.readAt zs (i : Int) = S1.readF (zs.drop i) := by
  unfold S1.readAt
  rw [if_pos ⟨by omega, by omega⟩, Int.toNat_natCast]
set_option maxHeartbeats 8000000 in
theorem xtext_any (g q : Nat) (ty ty2 : TypeId) (n : Ne) (fo ch : Bool) (at_ : Nat) (a : Option Addr) (cap : Nat) (zs : List Int) (w : World) (hk : Blk w q ty n.cells) (hx : Blk w g ty2 (exCells q fo ch)) (hgq : g ≠ q) (hs : S1.SB w a cap zs) (hat : at_ + zs.length ≤ 1000000) (hag : ∀ b off, a = some ⟨b, off, none⟩ → b ≠ g) :
    Calls Tryz.prog 39 #[.pointer (some ⟨g, 0, none⟩), .int .i64 at_, .slice a zs.length cap] w fun e w' => ∃ v, e = .returned v ∧ w'.ownsRow w.heap.size 34 7 v (S1.pcs zs).length (itCells (pcIts at_ fo ch (decide (0 < n.b)) (decide (0 < n.p)) (S1.pcs zs))) ∧ Blk w' g ty2 (exCells q (fo && (S1.pcs zs).isEmpty) (ch && (S1.pcs zs).isEmpty)) ∧ Blk w' q ty n.cells ∧ w.grownBy w' (some g) := by
  obtain ⟨i0, hi, hz0, hz1, hz2⟩ := info_parts info_item
  have hlen := S1.pcs_length zs
  have HS := hid hs
  have HK := hid hk
  have HX := hid hx
  have HAG := hid hag
  have HIT := hid (fun fo ch r at_ sz W (h1 : Blk W q ty n.cells) (h2 : Blk W g ty2 (exCells q fo ch)) => item_any g q ty ty2 n fo ch r at_ sz W h1 h2 hgq)
  have hglt := hx.lt
  have HQL := hid hk.lt
  clear hs hk hx hag hgq
  generalize hnb : decide (0 < n.b) = nb at *
  generalize hpr : decide (0 < n.p) = pr at *
  clear hnb hpr
  go_enter Tryz.func39, Tryz.ntmps39
  go_wp2
  go_loopw [7, 8] (fun s7 s8 wr => ∃ (v : Value) (i : Nat) (pre : List S1.Pc), s7 = v ∧ s8 = .int .i64 i ∧ i ≤ zs.length ∧ Hid (pre ++ S1.pcsFrom zs i = S1.pcs zs) ∧ Hid (wr.ownsRow w.heap.size 34 7 v pre.length (itCells (pcIts at_ fo ch nb pr pre))) ∧ Hid (Blk wr g ty2 (exCells q (fo && pre.isEmpty) (ch && pre.isEmpty))) ∧ Hid (Blk wr q ty n.cells) ∧ Hid (w.grownBy wr (some g))) (fun _ s8 _ => zs.length - (intOf s8).toNat)
  case atStart => exact ⟨_, 0, [], rfl, rfl, Nat.zero_le _, rfl, World.ownsRow_nil _ _ _ _, by show Blk _ _ _ _; simpa using HX.out, HK.out, World.grownBy.refl _ _⟩
  case round =>
    obtain ⟨v, i, pre, rfl, rfl, hi1, HP, HROW, HXR, HKR, HG⟩ := hrel
    have hszr := HG.out.size
    by_cases hlt : i < zs.length
    · have hlt' : (i : Int) < (zs.length : Int) := by omega
      have hnx := S1.next_any a cap zs i wr (sb_grown HS.out HG.out HAG.out)
      rw [readAt_eq hlt] at hnx
      have hst := S1.pcsFrom_step hlt
      have hsz := S1.readF_drop_size hlt
      generalize S1.readF (zs.drop i) = rd at *
      obtain ⟨r, size, whole⟩ := rd
      simp only at hnx hst hsz
      obtain ⟨hs1, hs2⟩ := hsz
      have HNX := hid hnx
      have HP2 : Hid ((pre ++ [⟨i, size, r, whole⟩]) ++ S1.pcsFrom zs (i + size) = S1.pcs zs) := by
        refine Eq.trans ?_ HP.out
        rw [hst]; simp
      have hplen : pre.length + 1 ≤ 1000000 := by
        have h := congrArg List.length HP2.out
        simp at h
        omega
      have hib : (i : Int) + (size : Int) ≤ 1000000 := by omega
      have hab : (at_ : Int) + (i : Int) = ((at_ + i : Nat) : Int) := by omega
      have hab2 : ((at_ + i : Nat) : Int) ≤ 1000000 := by omega
      have HCE := hid (pcIts_snoc at_ nb pr ⟨i, size, r, whole⟩ pre fo ch)
      have HEM := hid (isEmpty_snoc pre (⟨i, size, r, whole⟩ : S1.Pc))
      generalize hfo : (fo && pre.isEmpty) = f1 at *
      generalize hch : (ch && pre.isEmpty) = c1 at *
      clear hfo hch hnx hst HP hlen hat
      generalize at_ + i = ai at *
      go_wp2_with fail
      refine HNX.out.mono ?_
      rintro e w1 ⟨rfl, qd, rfl⟩
      go_wp2_with fail
      refine (HIT.out f1 c1 r ai size _ (HKR.out.drewN _) (HXR.out.drewN _)).mono ?_
      rintro e w2 ⟨rfl, hx2, hk2, hg2⟩
      have HX2 := hid hx2
      have HK2 := hid hk2
      have HG1 := hid (grown_drewN wr qd (some g))
      have HG2 := hid (HG1.out.trans hg2)
      have hs2z := HG2.out.size
      have hne : ∀ k, u7.ownBlock = some k → (some g : Option Nat) ≠ some k := fun k e e2 => by
        cases e2
        have := (HROW.out.lt _ e).1
        omega
      have HROW2 := hid (own_kept HROW.out HG2.out hne)
      have hb2 : w.heap.size ≤ w2.heap.size := by omega
      have HLT := hid (fun k (e : u7.ownBlock = some k) => HROW2.out.lt k e)
      clear hx2 hk2 hg2 hne
      go_wp2_with (at_builtin; (refine wpList_append_own _ rfl _ _ 26 rfl w.heap.size 34 i0 (.agg it0) 7 32 Tryz.underlying26 hi hz0 hz1 hz2 rfl (by decide) _ _ _ rfl (HROW2.out.alloc _) ⟨w2.heap.size, 0, none⟩ 1 1 [.int .i32 r, .int .i64 ai, .int .i64 size, .bool f1, .bool c1, .bool nb, .bool pr] rfl rfl (World.news_of_block (cs := #[.int .i32 r, .int .i64 ai, .int .i64 size, .bool f1, .bool c1, .bool nb, .bool pr]) (t := 34) (fr := (0, 0)) (heap_alloc_new _ _)) (by simp [Value.oneCell']) (by unfold maxLen; omega) (by omega) (by simp; omega) ?_); intro v' w3 hown' hgrow' _)
      have HX3 := hid ((HX2.out.alloc _).grown hgrow' (fun e => by have := (HLT.out g e.symm).1; omega))
      have HK3 := hid ((HK2.out.alloc _).grown hgrow' (fun e => by have := (HLT.out q e.symm).1; have := HQL.out; omega))
      have HG3 := hid (((HG.out.trans HG2.out).trans (World.grownBy_alloc _ _ _)).andThen hgrow' (fun j e => .inl (HLT.out j e).1))
      go_roundw
      case rel => exact ⟨v', i + size, _, rfl, by go_num, by omega, HP2.out, by rw [HCE.out, itCells_snoc, List.length_append]; exact hown', by show Blk _ _ _ _; rw [HEM.out]; simpa using HX3.out, HK3.out, HG3.out⟩
      case measure => simp [intOf]; omega
    · obtain rfl : i = zs.length := by omega
      have hfin : pre = S1.pcs zs := by
        have h := HP.out
        rwa [S1.pcsFrom_end (Nat.le_refl _), List.append_nil] at h
      subst hfin
      clear hlen hlt hat
      go_wp2
      go_ret
      exact ⟨_, rfl, HROW.out, HXR.out, HKR.out, HG.out⟩
end Go.Proofs.YtlfbgaknljdanaaGreatDoor
