/- Chapter 22: a nest takes a token; its counts: walks. -/
import Derived.Test.YtlfbgaknljdanaaGreatDoorNeB
namespace Go.Proofs.YtlfbgaknljdanaaGreatDoor
open Go.RowKit
open Go.Lib (hid)
set_option linter.unusedVariables false
set_option maxRecDepth 100000

/-- A token, taken: the nest behind it; is a break forced; is there a chance? -/
def neTake (n : Ne) (k : Int) (x : ByteArray) (sg : Bool) : Ne × Bool × Bool :=
  if k = 2 then neStart n x sg else if k = 3 then ((neEnd n x).1, (neEnd n x).2, false) else (n, false, false)
theorem neTake_ok {n : Ne} (h : n.ok) (k : Int) (x : ByteArray) (sg : Bool) : (neTake n k x sg).1.ok := by
  unfold neTake
  split
  · exact neStart_ok h x sg
  · split
    · exact neEnd_ok h x
    · exact h
/-- A token's box, its cells alone. -/
def NB (B : Nat) (k f t : Int) (nm : ByteArray) (r : Int) (sg : Bool) (w' : World) : Prop :=
  w'.cell? ⟨B, 0, none⟩ = some (.int .i64 k) ∧ w'.cell? ⟨B, 1, none⟩ = some (.int .i64 f) ∧ w'.cell? ⟨B, 2, none⟩ = some (.int .i64 t) ∧ w'.cell? ⟨B, 3, none⟩ = some (.string nm) ∧ w'.cell? ⟨B, 4, none⟩ = some (.int .i32 r) ∧ w'.cell? ⟨B, 5, none⟩ = some (.bool sg) ∧ B < w'.heap.size
theorem NB_next {B : Nat} {k f t : Int} {nm : ByteArray} {r : Int} {sg : Bool} {w1 w2 : World} {q : Nat} (h : NB B k f t nm r sg w1) (hq : q ≠ B) (hg : w1.grownBy w2 (some q)) : NB B k f t nm r sg w2 := by
  obtain ⟨h0, h1, h2, h3, h4, h5, h7⟩ := h
  have hc : ∀ o, w2.cell? ⟨B, o, none⟩ = w1.cell? ⟨B, o, none⟩ := fun o => by
    have hbk := hg.block B h7 (by simpa using fun e => hq e.symm)
    first
      | (simp only [World.cell?, World.block?, hbk])
      | (unfold World.cell?; rw [hbk])
      | (simp [World.cell?, hbk])
  exact ⟨(hc 0).trans h0, (hc 1).trans h1, (hc 2).trans h2, (hc 3).trans h3, (hc 4).trans h4, (hc 5).trans h5, Nat.lt_of_lt_of_le h7 hg.size⟩
set_option maxHeartbeats 4000000 in
theorem nTake_any (q : Nat) (ty : TypeId) (n : Ne) (k f t r : Int) (nm : ByteArray) (sg : Bool) (w : World) (hk : Blk w q ty n.cells) (hn : n.ok) (hx : nm.size ≤ maxLen) (ht : TabSp w) :
    Calls Tryz.prog 37 #[.pointer (some ⟨q, 0, none⟩), .agg #[.int .i64 k, .int .i64 f, .int .i64 t, .string nm, .int .i32 r, .bool sg]] w fun e w' => e = .returned (.tuple #[.bool (neTake n k nm sg).2.1, .bool (neTake n k nm sg).2.2]) ∧
      Blk w' q ty (neTake n k nm sg).1.cells ∧ w.grownBy w' (some q) := by
  have hbx := (Below.refl w.heap.size w).alloc (Nat.le_refl _) (.cells #[.int .i64 k, .int .i64 f, .int .i64 t, .string nm, .int .i32 r, .bool sg] 30)
  have hk1 := hk.alloc (.cells #[.int .i64 k, .int .i64 f, .int .i64 t, .string nm, .int .i32 r, .bool sg] 30)
  have hq := Blk.new w 30 #[.int .i64 k, .int .i64 f, .int .i64 t, .string nm, .int .i32 r, .bool sg]
  have x0 := hq.cell 0
  have x1 := hq.cell 1
  have x2 := hq.cell 2
  have x3 := hq.cell 3
  have x4 := hq.cell 4
  have x5 := hq.cell 5
  simp only [List.getElem?_toArray, List.getElem?_cons_zero, List.getElem?_cons_succ] at x0 x1 x2 x3 x4 x5
  have HOF := hid (fun W (h : Below w.heap.size w W) => elOf_any nm hx W (ht.below h (Nat.le_refl _)))
  have HK1 := hid hk1
  have HB1 := hid hbx
  have HG1 := hid (grown_of_below hbx (some q))
  have HQL := hid hk1.lt
  have HQ := hid (show q ≠ w.heap.size from Nat.ne_of_lt hk.lt)
  have hlt := hq.lt
  clear hk hk1 hbx hq ht
  by_cases hk2 : k = 2
  · subst hk2
    have HS := hid (fun W (hW : Blk W q ty n.cells) => nstart_any q ty n nm _ sg W hW hn 2 f t r nm rfl)
    rw [show neTake n 2 nm sg = neStart n nm sg from rfl]
    go_enter Tryz.func37, Tryz.ntmps37
    go_upto_region 5 with fail
    generalize w.alloc (.cells #[.int .i64 2, .int .i64 f, .int .i64 t, .string nm, .int .i32 r, .bool sg] 30) = w1 at *
    have HNE := hid (show q ≠ w.heap.size from HQ.out)
    refine wp_region_held_drew (S := fun w' : World => w'.cell? ⟨w.heap.size, 0, none⟩ = some (.int .i64 2) ∧ w'.cell? ⟨w.heap.size, 1, none⟩ = some (.int .i64 f) ∧ w'.cell? ⟨w.heap.size, 2, none⟩ = some (.int .i64 t) ∧ w'.cell? ⟨w.heap.size, 3, none⟩ = some (.string nm) ∧ w'.cell? ⟨w.heap.size, 4, none⟩ = some (.int .i32 r) ∧ w'.cell? ⟨w.heap.size, 5, none⟩ = some (.bool sg) ∧ w.heap.size < w'.heap.size) (by kernel_rfl) ⟨x0, x1, x2, x3, x4, x5, hlt⟩ (fun hHeld => ?_)
    clear x0 x1 x2 x3 x4 x5
    refine wpAnyH_take (i := 0) (v := ?hv1) rfl (by kernel_rfl) (by kernel_rfl) (by kernel_rfl) (fun _ _ _ h => h) (Or.inl ⟨by rfl, ?hy1⟩) (by assumption) ?hr1
    case hy1 => (intro w hSw; (try dsimp only at hSw); go_simp; try with_reducible rfl)
    (try simp only [Act.put, List.getElem_toArray, List.getElem_cons_zero, List.setIfInBounds_toArray, List.set_cons_zero, List.set_cons_succ])
    refine wpAnyH_take (i := 1) (v := ?hv2) rfl (by kernel_rfl) (by kernel_rfl) (by kernel_rfl) (fun _ _ _ h => h) (Or.inl ⟨by rfl, ?hy2⟩) (by assumption) ?hr2
    case hy2 => (intro w hSw; (try dsimp only at hSw); go_simp; try with_reducible rfl)
    (try simp only [Act.put, List.getElem_toArray, List.getElem_cons_zero, List.getElem_cons_succ, List.setIfInBounds_toArray, List.set_cons_zero, List.set_cons_succ])
    refine wpAnyH_take (i := 2) (v := ?hv3) rfl (by kernel_rfl) (by kernel_rfl) (by kernel_rfl) (fun _ _ _ h => h) (Or.inl ⟨by rfl, ?hy3⟩) (by assumption) ?hr3
    case hy3 => (intro w hSw; (try dsimp only at hSw); go_simp; try with_reducible rfl)
    (try simp only [Act.put, List.getElem_toArray, List.getElem_cons_zero, List.getElem_cons_succ, List.setIfInBounds_toArray, List.set_cons_zero, List.set_cons_succ])
    refine wpAnyH_take (i := 3) (v := ?hv4) rfl (by kernel_rfl) (by kernel_rfl) (by kernel_rfl) (fun _ _ _ h => h) (Or.inl ⟨by rfl, ?hy4⟩) (by assumption) ?hr4
    case hy4 => (intro w hSw; (try dsimp only at hSw); go_simp; try with_reducible rfl)
    (try simp only [Act.put, List.getElem_toArray, List.getElem_cons_zero, List.getElem_cons_succ, List.setIfInBounds_toArray, List.set_cons_zero, List.set_cons_succ])
    refine wpAnyH_ready (rs := [4]) (by kernel_rfl) (by simp) ?_
    refine AllReadyH.cons rfl (fun K hK => ?_) AllReadyH.nil
    go_simp
    go_at_call 56
    refine (HOF.out _ HB1.out.drew).mono ?_
    rintro e w4 ⟨rfl, hb4⟩
    have HG4 := hid (grown_of_below hb4 (some q))
    have HK4 := hid (HK1.out.drew.below hb4 HQL.out)
    go_wp2_with fail
    refine hK.out _ _ (NB_next hHeld HNE.out HG4.out) (fun hHeld2 => ?_)
    clear hK K hHeld hb4
    refine wpAnyH_ready (rs := [5]) (by kernel_rfl) (by simp) ?_
    refine AllReadyH.cons rfl (fun K hK => ?_) AllReadyH.nil
    go_simp
    refine (HS.out _ HK4.out).mono ?_
    rintro e w5 ⟨rfl, hk5, hg5⟩
    have HK5 := hid hk5
    have HG5 := hid hg5
    clear hk5 hg5
    go_wp2_with fail
    refine hK.out _ _ (NB_next hHeld2 HNE.out HG5.out) (fun hHeld3 => ?_)
    clear hK K hHeld2
    refine wpAnyH_take (i := 6) (v := ?hv5) rfl (by kernel_rfl) (by kernel_rfl) (by kernel_rfl) (fun _ _ _ h => h) (Or.inl ⟨by rfl, ?hy5⟩) (by assumption) ?hr5
    case hy5 => (intro w hSw; (try dsimp only at hSw); go_simp; try with_reducible rfl)
    (try simp only [Act.put, List.getElem_toArray, List.getElem_cons_zero, List.getElem_cons_succ, List.setIfInBounds_toArray, List.set_cons_zero, List.set_cons_succ])
    refine wpAnyH_take (i := 7) (v := ?hv6) rfl (by kernel_rfl) (by kernel_rfl) (by kernel_rfl) (fun _ _ _ h => h) (Or.inl ⟨by rfl, ?hy6⟩) (by assumption) ?hr6
    case hy6 => (intro w hSw; (try dsimp only at hSw); go_simp; try with_reducible rfl)
    (try simp only [Act.put, List.getElem_toArray, List.getElem_cons_zero, List.getElem_cons_succ, List.setIfInBounds_toArray, List.set_cons_zero, List.set_cons_succ])
    refine wpAnyH_take (i := 8) (v := ?hv7) rfl (by kernel_rfl) (by kernel_rfl) (by kernel_rfl) (fun _ _ _ h => h) (Or.inl ⟨by rfl, ?hy7⟩) (by assumption) ?hr7
    case hy7 => (intro w hSw; (try dsimp only at hSw); go_simp; try with_reducible rfl)
    (try simp only [Act.put, List.getElem_toArray, List.getElem_cons_zero, List.getElem_cons_succ, List.setIfInBounds_toArray, List.set_cons_zero, List.set_cons_succ])
    refine wpAnyH_take (i := 9) (v := ?hv8) rfl (by kernel_rfl) (by kernel_rfl) (by kernel_rfl) (fun _ _ _ h => h) (Or.inl ⟨by rfl, ?hy8⟩) (by assumption) ?hr8
    case hy8 => (intro w hSw; (try dsimp only at hSw); go_simp; try with_reducible rfl)
    (try simp only [Act.put, List.getElem_toArray, List.getElem_cons_zero, List.getElem_cons_succ, List.setIfInBounds_toArray, List.set_cons_zero, List.set_cons_succ])
    refine wpAnyH_done (by kernel_rfl) ?_ _
    go_wp2_with fail
    go_ret2
    exact ⟨rfl, HK5.out, ((HG1.out.trans (⟨rfl, rfl, rfl, Nat.le_refl _, fun _ _ _ => rfl⟩ : w1.grownBy w1.drew (some q))).trans HG4.out).trans HG5.out⟩
  · by_cases hk3 : k = 3
    · subst hk3
      have HS := hid (fun W (hW : Blk W q ty n.cells) => nend_any q ty n nm W hW hn)
      rw [show neTake n 3 nm sg = ((neEnd n nm).1, (neEnd n nm).2, false) from rfl]
      clear hk2
      go_enter Tryz.func37, Tryz.ntmps37
      go_wp2_with fail
      generalize w.alloc (.cells #[.int .i64 3, .int .i64 f, .int .i64 t, .string nm, .int .i32 r, .bool sg] 30) = w1 at *
      refine (HOF.out _ HB1.out).mono ?_
      rintro e w4 ⟨rfl, hb4⟩
      have HG4 := hid (grown_of_below hb4 (some q))
      have HK4 := hid (HK1.out.below hb4 HQL.out)
      clear hb4 x0 x1 x2 x3 x4 x5
      go_wp2_with fail
      refine (HS.out _ HK4.out).mono ?_
      rintro e w5 ⟨rfl, hk5, hg5⟩
      have HK5 := hid hk5
      have HG5 := hid hg5
      clear hk5 hg5
      go_wp2_with fail
      go_ret2
      exact ⟨rfl, HK5.out, (HG1.out.trans HG4.out).trans HG5.out⟩
    · have h2b : (k == 2) = false := by simpa using hk2
      have h3b : (k == 3) = false := by simpa using hk3
      rw [show neTake n k nm sg = (n, false, false) by unfold neTake; rw [if_neg hk2, if_neg hk3]]
      go_enter Tryz.func37, Tryz.ntmps37
      go_wp2_with fail
      go_ret2
      exact ⟨rfl, HK1.out, HG1.out⟩
end Go.Proofs.YtlfbgaknljdanaaGreatDoor
