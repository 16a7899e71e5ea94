/- Chapter 18: the document's mark: the walk. -/
import Derived.WalkKit
import Derived.BigQuiet
import Derived.BigRegion
import Derived.Deep.LoopGhost
import Derived.Deep.RegionWith
import Derived.Test.YtpkbmgpbagdalaaTagSt2
import Derived.Test.YtpkbmgpbagdalaaTagRL
import Derived.Test.YtpkbmgpbagdalaaTagArg
import Derived.Test.YtpkbmgpbagdalaaTagAlike
namespace Go.Proofs.Ytpkbmgpbagdalaa
open Go.RowKit
open Go.Lib (hid)
set_option linter.unusedVariables false

theorem info_rattr : (Try.prog.info? 43).map (fun i => (i.zero, i.size, i.bytes)) = some (some (.agg #[.string ⟨#[]⟩, .string ⟨#[]⟩]), 2, 32) := by kernel_rfl

/-- The document's mark under way. -/
def rfC (kd : Int) (tn : ByteArray) (v : Value) : Array Value := #[.int .i64 kd, .int .i64 0, .string tn, v, .bool false, .bool false]
structure RT (s : ByteArray) (w wr : World) (kd : Int) (i : Nat) (st : St) (v : Value) (M : Mk) : Prop where
  sz : st.tname.size ≤ i ∧ st.name.size ≤ i ∧ st.value.size ≤ i ∧ st.attrs.length ≤ i
  go : fromT s kd i st = M
  bel : Below w.heap.size w wr
  blk : Blk wr (w.heap.size + 1) 31 (rfC kd st.tname v)
  res : Blk wr w.heap.size 31 tag0
  own : wr.ownsRow (w.heap.size + 2) 43 2 v st.attrs.length (atCells st.attrs)

theorem RT.same {s : ByteArray} {w wr : World} {kd : Int} {i k k' : Nat} {sl sl' : Bool} {nm nm' vl vl' tn : ByteArray} {q q' : Int} {at_ : List (ByteArray × ByteArray)} {v : Value} {M : Mk}
    (h : RT s w wr kd i ⟨k, sl, nm, vl, q, tn, at_⟩ v M) (he : M = fromT s kd (i + 1) ⟨k', sl', nm', vl', q', tn, at_⟩) (h1 : nm'.size ≤ i + 1) (h2 : vl'.size ≤ i + 1) : RT s w wr kd (i + 1) ⟨k', sl', nm', vl', q', tn, at_⟩ v M := by
  have hs := h.sz
  simp only at hs
  exact ⟨⟨by simp only; omega, h1, h2, by simp only; omega⟩, he.symm, h.bel, h.blk, h.res, h.own⟩
theorem RT.grow {s : ByteArray} {w wr w' : World} {kd : Int} {i : Nat} {st : St} {v : Value} {M : Mk} (h : RT s w wr kd i st v M) (hb : Below wr.heap.size wr w') : RT s w w' kd i st v M :=
  ⟨h.sz, h.go, h.bel.trans (hb.mono h.bel.size), h.blk.below hb h.blk.lt, h.res.below hb h.res.lt, own_kept h.own (grown_of_below hb none) fun _ _ e => by cases e⟩

theorem RT.tname {s : ByteArray} {w wr : World} {kd : Int} {i : Nat} {sl : Bool} {nm vl tn : ByteArray} {q : Int} {at_ : List (ByteArray × ByteArray)} {v : Value} {M : Mk}
    (h : RT s w wr kd i ⟨0, sl, nm, vl, q, tn, at_⟩ v M) (x : ByteArray) (hx : x.size = 1) (he : M = fromT s kd (i + 1) ⟨0, sl, nm, vl, q, tn ++ x, at_⟩) : RT s w (wr.setCell ⟨w.heap.size + 1, 2, none⟩ (.string (tn ++ x))) kd (i + 1) ⟨0, sl, nm, vl, q, tn ++ x, at_⟩ v M := by
  have hs := h.sz
  simp only at hs
  refine ⟨⟨by simp only [ByteArray.size_append]; omega, by simp only; omega, by simp only; omega, by simp only; omega⟩, he.symm, h.bel.setCell (p := ⟨w.heap.size + 1, 2, none⟩) (by show _ ≤ _; simp) _, ?_, h.res.far (by simp) _, ?_⟩
  · have := h.blk.set_ 2 (.string (tn ++ x))
    simpa [rfC] using this
  · exact own_kept h.own (grown_set _ _ _ _) fun k hk e => own_blk_ne h.own h.blk (by decide) (hk.trans e.symm)
theorem RT.app {s : ByteArray} {w wr w2 : World} {kd : Int} {i k k' : Nat} {sl sl' : Bool} {nm nm' vl vl' tn : ByteArray} {q : Int} {at_ : List (ByteArray × ByteArray)} {v v' : Value} {M M' : Mk} {o : Obj} {val : ByteArray}
    (h : RT s w wr kd i ⟨k, sl, nm, vl, q, tn, at_⟩ v M) (ho : w2.ownsRow (w.heap.size + 2) 43 2 v' (at_.length + 1) (atCells at_ ++ [.string nm, .string val])) (hg : (wr.alloc o).grownBy w2 v.ownBlock)
    (he : M' = fromT s kd (i + 1) ⟨k', sl', nm', vl', q, tn, at_ ++ [(nm, val)]⟩) (h1 : nm'.size ≤ i + 1) (h2 : vl'.size ≤ i + 1) :
    RT s w (w2.setCell ⟨w.heap.size + 1, 3, none⟩ v') kd (i + 1) ⟨k', sl', nm', vl', q, tn, at_ ++ [(nm, val)]⟩ v' M' := by
  have hs := h.sz
  simp only at hs
  have hv : ∀ g, v.ownBlock = some g → w.heap.size + 2 ≤ g := own_ge h.own
  have hblk := (h.blk.alloc o).grown hg (fun e => by have := hv _ e.symm; omega)
  have hres := (h.res.alloc o).grown hg (fun e => by have := hv _ e.symm; omega)
  have hbel := (h.bel.alloc h.bel.size o).grown hg (by have := h.bel.size; simp; omega) (fun g e => by have := hv g e; omega)
  refine ⟨⟨by simp only; omega, h1, h2, by simp; omega⟩, he.symm, hbel.setCell (p := ⟨w.heap.size + 1, 3, none⟩) (by show _ ≤ _; simp) _, ?_, hres.far (by simp) _, ?_⟩
  · have := hblk.set_ 3 v'
    simpa [rfC] using this
  · show World.ownsRow _ _ _ _ _ _ _
    rw [atCells_snoc, List.length_append]
    exact own_kept ho (grown_set _ _ _ _) fun k hk e => own_blk_ne ho hblk (by decide) (hk.trans e.symm)

theorem set6_blkR {w : World} {r : Nat} {M : Mk} {v : Value} (h : Blk w r 31 tag0) : Blk (set6 w r M v) r 31 #[.int .i64 M.kind, .int .i64 M.size, .string M.name, v, .bool M.single, .bool M.closed] := by
  have := (((((h.set_ 0 (.int .i64 M.kind)).set_ 1 (.int .i64 M.size)).set_ 2 (.string M.name)).set_ 3 v).set_ 4 (.bool M.single)).set_ 5 (.bool M.closed)
  show Blk _ _ _ _
  unfold set6
  simpa [tag0] using this
theorem set6_ownR {w : World} {B r n : Nat} {M : Mk} {v : Value} {xs : List Value} (hb : Blk w r 31 tag0) (h : w.ownsRow B 43 2 v n xs) : (set6 w r M v).ownsRow B 43 2 v n xs := by
  have hr : ∀ k, v.ownBlock = some k → some r ≠ some k := fun k hk e => own_blk_ne h hb (by decide) (hk.trans e.symm)
  exact own_kept (own_kept (own_kept (own_kept (own_kept (own_kept h (grown_set _ r 0 _) hr) (grown_set _ r 1 _) hr) (grown_set _ r 2 _) hr) (grown_set _ r 3 _) hr) (grown_set _ r 4 _) hr) (grown_set _ r 5 _) hr
/-- Where a mark is handed back: the world, its result's block, and its attributes. -/
def retW (W : World) (T : Nat) (sz : Nat) (sl : Bool) : World := ((W.setCell ⟨T, 1, none⟩ (.int .i64 (sz : Int))).setCell ⟨T, 5, none⟩ (.bool true)).setCell ⟨T, 4, none⟩ (.bool sl)
theorem RT.ret {s : ByteArray} {w W : World} {kd : Int} {i : Nat} {st : St} {v : Value} {M0 : Mk} (h : RT s w W kd i st v M0) (sz : Nat) (sl : Bool) (M : Mk) (hk : M.attrs = st.attrs) :
    Blk (set6 (retW W (w.heap.size + 1) sz sl) w.heap.size M v) w.heap.size 31 #[.int .i64 M.kind, .int .i64 M.size, .string M.name, v, .bool M.single, .bool M.closed] ∧ Below w.heap.size w (set6 (retW W (w.heap.size + 1) sz sl) w.heap.size M v) ∧ (set6 (retW W (w.heap.size + 1) sz sl) w.heap.size M v).ownsRow w.heap.size 43 2 v M.attrs.length (atCells M.attrs) := by
  have hne : w.heap.size ≠ w.heap.size + 1 := by omega
  have hr := ((h.res.far (p := ⟨w.heap.size + 1, 1, none⟩) hne (.int .i64 (sz : Int))).far (p := ⟨w.heap.size + 1, 5, none⟩) hne (.bool true)).far (p := ⟨w.heap.size + 1, 4, none⟩) hne (.bool sl)
  have hB : w.heap.size ≤ w.heap.size + 1 := Nat.le_succ _
  have hb := ((h.bel.setCell (p := ⟨w.heap.size + 1, 1, none⟩) hB (.int .i64 (sz : Int))).setCell (p := ⟨w.heap.size + 1, 5, none⟩) hB (.bool true)).setCell (p := ⟨w.heap.size + 1, 4, none⟩) hB (.bool sl)
  have ht : ∀ k, v.ownBlock = some k → some (w.heap.size + 1) ≠ some k := fun k hk e => own_blk_ne h.own h.blk (by decide) (hk.trans e.symm)
  have ho := own_kept (own_kept (own_kept h.own (grown_set _ (w.heap.size + 1) 1 (.int .i64 (sz : Int))) ht) (grown_set _ (w.heap.size + 1) 5 (.bool true)) ht) (grown_set _ (w.heap.size + 1) 4 (.bool sl)) ht
  rw [hk]
  exact ⟨set6_blkR hr, set6_below (Nat.le_refl _) hb, set6_ownR hr (owns_base ho (by omega))⟩

theorem RT.ret1 {s : ByteArray} {w W : World} {kd : Int} {i : Nat} {st : St} {v : Value} {M0 : Mk} (h : RT s w W kd i st v M0) (sz : Nat) (M : Mk) (hk : M.attrs = st.attrs) :
    Blk (set6 (W.setCell ⟨w.heap.size + 1, 1, none⟩ (.int .i64 (sz : Int))) w.heap.size M v) w.heap.size 31 #[.int .i64 M.kind, .int .i64 M.size, .string M.name, v, .bool M.single, .bool M.closed] ∧ Below w.heap.size w (set6 (W.setCell ⟨w.heap.size + 1, 1, none⟩ (.int .i64 (sz : Int))) w.heap.size M v) ∧ (set6 (W.setCell ⟨w.heap.size + 1, 1, none⟩ (.int .i64 (sz : Int))) w.heap.size M v).ownsRow w.heap.size 43 2 v M.attrs.length (atCells M.attrs) := by
  have hne : w.heap.size ≠ w.heap.size + 1 := by omega
  have hr := h.res.far (p := ⟨w.heap.size + 1, 1, none⟩) hne (.int .i64 (sz : Int))
  have hB : w.heap.size ≤ w.heap.size + 1 := Nat.le_succ _
  have hb := h.bel.setCell (p := ⟨w.heap.size + 1, 1, none⟩) hB (.int .i64 (sz : Int))
  have ht : ∀ k, v.ownBlock = some k → some (w.heap.size + 1) ≠ some k := fun k hk e => own_blk_ne h.own h.blk (by decide) (hk.trans e.symm)
  have ho := own_kept h.own (grown_set _ (w.heap.size + 1) 1 (.int .i64 (sz : Int))) ht
  rw [hk]
  exact ⟨set6_blkR hr, set6_below (Nat.le_refl _) hb, set6_ownR hr (owns_base ho (by omega))⟩


/-- The code of the first loop. -/
def firstLoop : Code → Option Code
  | .loop c => some c
  | .seq a b => match firstLoop a with
    | some c => some c
    | none => firstLoop b
  | .block _ c => firstLoop c
  | .scope c => firstLoop c
  | .cond _ a b => match firstLoop a with
    | some c => some c
    | none => firstLoop b
  | _ => none
noncomputable def rtBody : Code := (Try.f23.body.bind firstLoop).getD .skip
def rtR (s : ByteArray) (fr : Nat) (kd : Int) (w : World) : Ending → World → Prop := fun e w' =>
  ∃ v, e = .returned ((refNamed s fr kd).val v) ∧ Below w.heap.size w w' ∧ w'.ownsRow w.heap.size 43 2 v (refNamed s fr kd).attrs.length (atCells (refNamed s fr kd).attrs)
set_option maxRecDepth 1000000 in
def rtI (b off n cap fr : Nat) (kd : Int) (s : ByteArray) (w : World) (M : Mk) (kx : Nat) (a : Act) (wr : World) : Prop :=
  ∃ u8 u9 u10 u11 u12 u13 u14 u15 u16 u20 u21 u22 u23 u24 u25 u26 u27 u28 u29 u30 u31 u32 u33 u34 u35 u36 u37 u38 u39 u40 u41 u42 u43 u44 u45 u46 u47 u48 u49 u50 u51 u52 u53 u54 u55 u56 u57 u58 u59 u60 u61 u62 u63 u64 u65 u66 u67 u68 u69 u70 u71 u72 u73 u74 u75 u76 u77 u78 u79 u80 u81 u82 u83 u84 u85 u86 u87 u88 u89 u90 u91 u92 u93 u94 u95 u96 u97 u98 u99 u100 u101 u102 u103 u104 u105 u106 u107 u108 u109 u110 u111 u112 u113 u114 u115 u116 u117 u118 u119 u120 u121 u122 u123 u124 u125 u126 u127 u128 u129 u130 u131 u132 u133 u134 u135 u136 u137 u138 u139 u140 u141 u142 u143 u144 u145 u146 u147 u148 u149 u150 u151 u152 u153 u154 u155 u156 u157 u158 u159 u160 u161 u162 u163 u164 u165 u166 u167 u168 u169 u170 u171 u172 u173 u174 u175 u176 u177 u178 u179 u180 u181 u182 u183 u184 u185 u186 u187 u188 u189 : Value, (∃ (i k : Nat) (z : Int) (sl : Bool) (nm vl : ByteArray) (q : Int) (tn : ByteArray) (at_ : List (ByteArray × ByteArray)) (v : Value), u8 = .int .i64 z ∧ z = (k : Int) ∧ u9 = .bool sl ∧ u10 = .string nm ∧ u11 = .string vl ∧ u12 = .int .u8 q ∧ u13 = .int .i64 i ∧ i ≤ n ∧ n - i ≤ kx ∧ k ≤ 6 ∧ Hid (RT s w wr kd i ⟨k, sl, nm, vl, q, tn, at_⟩ v M)) ∧ a = ⟨#[.slice (some ⟨b, off, none⟩) n cap, .int .i64 (fr : Nat), .int .i64 kd, undef, undef, undef, .pointer (some ⟨w.heap.size, 0, none⟩), .pointer (some ⟨w.heap.size + 1, 0, none⟩), u8, u9, u10, u11, u12, u13, u14, u15, u16, .int .i64 kd, .agg #[.int .i64 kd, .int .i64 0, .string ⟨#[]⟩, .slice none 0 0, .bool false, .bool false], .int .i64 (fr : Nat), u20, u21, u22, u23, u24, u25, u26, u27, u28, u29, u30, u31, u32, u33, u34, u35, u36, u37, u38, u39, u40, u41, u42, u43, u44, u45, u46, u47, u48, u49, u50, u51, u52, u53, u54, u55, u56, u57, u58, u59, u60, u61, u62, u63, u64, u65, u66, u67, u68, u69, u70, u71, u72, u73, u74, u75, u76, u77, u78, u79, u80, u81, u82, u83, u84, u85, u86, u87, u88, u89, u90, u91, u92, u93, u94, u95, u96, u97, u98, u99, u100, u101, u102, u103, u104, u105, u106, u107, u108, u109, u110, u111, u112, u113, u114, u115, u116, u117, u118, u119, u120, u121, u122, u123, u124, u125, u126, u127, u128, u129, u130, u131, u132, u133, u134, u135, u136, u137, u138, u139, u140, u141, u142, u143, u144, u145, u146, u147, u148, u149, u150, u151, u152, u153, u154, u155, u156, u157, u158, u159, u160, u161, u162, u163, u164, u165, u166, u167, u168, u169, u170, u171, u172, u173, u174, u175, u176, u177, u178, u179, u180, u181, u182, u183, u184, u185, u186, u187, u188, u189, undef, undef, undef, undef, undef, undef, undef, undef, undef, undef, undef, undef, undef, undef], []⟩
end Go.Proofs.Ytpkbmgpbagdalaa
