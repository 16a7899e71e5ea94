/- The law TagCase: the region that compares two attributes, step by step. -/
import Derived.Test.YtpkbmgpbagdalaaTagCs
import Derived.Test.YtpkbmgpbagdalaaInv
namespace Go.Proofs.Ytpkbmgpbagdalaa.tagCase
open Go.RowKit
open Go.Lib (hid)
set_option linter.unusedVariables false

def caseOps : List Oper := [{ dst := some 111, op := Op.fieldAddr 26 (Operand.tmp 5) 3, type := 0, pos := "law.go:131", after := #[], guard := none }, { dst := some 112, op := Op.load 24 (Operand.tmp 111), type := 24, pos := "law.go:131", after := #[{ on := 0, ground := Ground.data }], guard := none }, { dst := some 113, op := Op.move (Operand.tmp 9), type := 3, pos := "law.go:131", after := #[], guard := none }, { dst := some 114, op := Op.indexAddr 24 (Operand.tmp 112) (Operand.tmp 113), type := 0, pos := "law.go:131", after := #[{ on := 1, ground := Ground.data }, { on := 2, ground := Ground.data }], guard := none }, { dst := some 115, op := Op.fieldAddr 38 (Operand.tmp 114) 0, type := 0, pos := "law.go:131", after := #[{ on := 3, ground := Ground.data }], guard := none }, { dst := some 116, op := Op.load 9 (Operand.tmp 115), type := 9, pos := "law.go:131", after := #[{ on := 4, ground := Ground.data }], guard := none }, { dst := some 117, op := Op.fieldAddr 26 (Operand.tmp 7) 3, type := 0, pos := "law.go:131", after := #[], guard := none }, { dst := some 118, op := Op.load 24 (Operand.tmp 117), type := 24, pos := "law.go:131", after := #[{ on := 6, ground := Ground.data }], guard := none }, { dst := some 119, op := Op.move (Operand.tmp 9), type := 3, pos := "law.go:131", after := #[], guard := none }, { dst := some 120, op := Op.indexAddr 24 (Operand.tmp 118) (Operand.tmp 119), type := 0, pos := "law.go:131", after := #[{ on := 7, ground := Ground.data }, { on := 8, ground := Ground.data }], guard := none }, { dst := some 121, op := Op.fieldAddr 38 (Operand.tmp 120) 0, type := 0, pos := "law.go:131", after := #[{ on := 9, ground := Ground.data }], guard := none }, { dst := some 122, op := Op.load 9 (Operand.tmp 121), type := 9, pos := "law.go:131", after := #[{ on := 10, ground := Ground.data }], guard := none }, { dst := some 123, op := Op.binOp BinOp.neq 9 (Operand.tmp 116) (Operand.tmp 122) 9, type := 4, pos := "law.go:131", after := #[{ on := 5, ground := Ground.data }, { on := 11, ground := Ground.data }], guard := none }, { dst := some 124, op := Op.move (Operand.tmp 123), type := 4, pos := "law.go:131", after := #[{ on := 12, ground := Ground.data }], guard := none }, { dst := some 125, op := Op.fieldAddr 26 (Operand.tmp 5) 3, type := 0, pos := "law.go:131", after := #[{ on := 13, ground := Ground.guard }], guard := some (13, false) }, { dst := some 126, op := Op.load 24 (Operand.tmp 125), type := 24, pos := "law.go:131", after := #[{ on := 14, ground := Ground.data }, { on := 13, ground := Ground.guard }], guard := some (13, false) }, { dst := some 127, op := Op.move (Operand.tmp 9), type := 3, pos := "law.go:131", after := #[{ on := 13, ground := Ground.guard }], guard := some (13, false) }, { dst := some 128, op := Op.indexAddr 24 (Operand.tmp 126) (Operand.tmp 127), type := 0, pos := "law.go:131", after := #[{ on := 15, ground := Ground.data }, { on := 16, ground := Ground.data }, { on := 13, ground := Ground.guard }], guard := some (13, false) }, { dst := some 129, op := Op.fieldAddr 38 (Operand.tmp 128) 1, type := 0, pos := "law.go:131", after := #[{ on := 17, ground := Ground.data }, { on := 13, ground := Ground.guard }], guard := some (13, false) }, { dst := some 130, op := Op.load 9 (Operand.tmp 129), type := 9, pos := "law.go:131", after := #[{ on := 18, ground := Ground.data }, { on := 13, ground := Ground.guard }], guard := some (13, false) }, { dst := some 131, op := Op.call { callee := Callee.value (Operand.func 12), args := #[Operand.tmp 130], argTypes := #[9] }, type := 9, pos := "law.go:131", after := #[{ on := 19, ground := Ground.data }, { on := 13, ground := Ground.chain }, { on := 13, ground := Ground.guard }], guard := some (13, false) }, { dst := some 132, op := Op.fieldAddr 26 (Operand.tmp 7) 3, type := 0, pos := "law.go:131", after := #[{ on := 13, ground := Ground.guard }], guard := some (13, false) }, { dst := some 133, op := Op.load 24 (Operand.tmp 132), type := 24, pos := "law.go:131", after := #[{ on := 21, ground := Ground.data }, { on := 13, ground := Ground.guard }], guard := some (13, false) }, { dst := some 134, op := Op.move (Operand.tmp 9), type := 3, pos := "law.go:131", after := #[{ on := 13, ground := Ground.guard }], guard := some (13, false) }, { dst := some 135, op := Op.indexAddr 24 (Operand.tmp 133) (Operand.tmp 134), type := 0, pos := "law.go:131", after := #[{ on := 22, ground := Ground.data }, { on := 23, ground := Ground.data }, { on := 13, ground := Ground.guard }], guard := some (13, false) }, { dst := some 136, op := Op.fieldAddr 38 (Operand.tmp 135) 1, type := 0, pos := "law.go:131", after := #[{ on := 24, ground := Ground.data }, { on := 13, ground := Ground.guard }], guard := some (13, false) }, { dst := some 137, op := Op.load 9 (Operand.tmp 136), type := 9, pos := "law.go:131", after := #[{ on := 25, ground := Ground.data }, { on := 13, ground := Ground.guard }], guard := some (13, false) }, { dst := some 138, op := Op.call { callee := Callee.value (Operand.func 12), args := #[Operand.tmp 137], argTypes := #[9] }, type := 9, pos := "law.go:131", after := #[{ on := 26, ground := Ground.data }, { on := 20, ground := Ground.chain }, { on := 13, ground := Ground.guard }], guard := some (13, false) }, { dst := some 139, op := Op.binOp BinOp.neq 9 (Operand.tmp 131) (Operand.tmp 138) 9, type := 4, pos := "law.go:131", after := #[{ on := 20, ground := Ground.data }, { on := 27, ground := Ground.data }, { on := 13, ground := Ground.guard }], guard := some (13, false) }, { dst := some 140, op := Op.pick (Operand.tmp 124) (Operand.const (Value.bool true)) (Operand.tmp 139), type := 4, pos := "law.go:131", after := #[{ on := 13, ground := Ground.data }, { on := 28, ground := Ground.data }], guard := none }]
structure caseInvSt (y0 y1 y2 y3 y4 y6 y8 y10 y11 y12 y13 y14 y15 y16 y17 y18 y19 y20 y21 y22 y23 y24 y25 y26 y27 y28 y29 y30 y31 y32 y33 y34 y35 y36 y37 y38 y39 y40 y41 y42 y43 y44 y45 y46 y47 y48 y49 y50 y51 y52 y53 y54 y55 y56 y57 y58 y59 y60 y61 y62 y63 y64 y65 y66 y67 y68 y69 y70 y71 y72 y73 y74 y75 y76 y77 y78 y79 y80 y81 y82 y83 y84 y85 y86 y87 y88 y89 y90 y91 y92 y93 y94 y95 y96 y97 y98 y99 y100 y101 y102 y103 y104 y105 y106 y107 y108 y109 y110 : Value) (i b1 o1 b2 o2 LN c1 c2 T5 T7 : Nat) (nmx v1 v2 : ByteArray) (w w10 : World) (w' : World) where
  l0 : Bool
  l1 : Bool
  l2 : Bool
  l3 : Bool
  l4 : Bool
  l5 : Bool
  l6 : Bool
  l7 : Bool
  l8 : Bool
  l9 : Bool
  l10 : Bool
  l11 : Bool
  l12 : Bool
  l13 : Bool
  l14 : Bool
  l15 : Bool
  l16 : Bool
  l17 : Bool
  l18 : Bool
  l19 : Bool
  l20 : Bool
  l21 : Bool
  l22 : Bool
  l23 : Bool
  l24 : Bool
  l25 : Bool
  l26 : Bool
  l27 : Bool
  l28 : Bool
  l29 : Bool
  x111 : Value
  x112 : Value
  x113 : Value
  x114 : Value
  x115 : Value
  x116 : Value
  x117 : Value
  x118 : Value
  x119 : Value
  x120 : Value
  x121 : Value
  x122 : Value
  x123 : Value
  x124 : Value
  x125 : Value
  x126 : Value
  x127 : Value
  x128 : Value
  x129 : Value
  x130 : Value
  x131 : Value
  x132 : Value
  x133 : Value
  x134 : Value
  x135 : Value
  x136 : Value
  x137 : Value
  x138 : Value
  x139 : Value
  x140 : Value
  H0 : Hid (l0 = true → x111 = .pointer (some ⟨T5, 3, none⟩))
  H1 : Hid (l1 = true → x112 = .slice (some ⟨b1, o1, none⟩) LN c1)
  H2 : Hid (l2 = true → x113 = .int .i64 i)
  H3 : Hid (l3 = true → x114 = .pointer (some ⟨b1, o1 + i * 2, none⟩))
  H4 : Hid (l4 = true → x115 = .pointer (some ⟨b1, o1 + i * 2, none⟩))
  H5 : Hid (l5 = true → x116 = .string nmx)
  H6 : Hid (l6 = true → x117 = .pointer (some ⟨T7, 3, none⟩))
  H7 : Hid (l7 = true → x118 = .slice (some ⟨b2, o2, none⟩) LN c2)
  H8 : Hid (l8 = true → x119 = .int .i64 i)
  H9 : Hid (l9 = true → x120 = .pointer (some ⟨b2, o2 + i * 2, none⟩))
  H10 : Hid (l10 = true → x121 = .pointer (some ⟨b2, o2 + i * 2, none⟩))
  H11 : Hid (l11 = true → x122 = .string nmx)
  H12 : Hid (l12 = true → x123 = .bool false)
  H13 : Hid (l13 = true → x124 = .bool false)
  H14 : Hid (l14 = true → x125 = .pointer (some ⟨T5, 3, none⟩))
  H15 : Hid (l15 = true → x126 = .slice (some ⟨b1, o1, none⟩) LN c1)
  H16 : Hid (l16 = true → x127 = .int .i64 i)
  H17 : Hid (l17 = true → x128 = .pointer (some ⟨b1, o1 + i * 2, none⟩))
  H18 : Hid (l18 = true → x129 = .pointer (some ⟨b1, o1 + i * 2 + 1, none⟩))
  H19 : Hid (l19 = true → x130 = .string v1)
  H20 : Hid (l20 = true → x131 = .string (lowerB v1))
  H21 : Hid (l21 = true → x132 = .pointer (some ⟨T7, 3, none⟩))
  H22 : Hid (l22 = true → x133 = .slice (some ⟨b2, o2, none⟩) LN c2)
  H23 : Hid (l23 = true → x134 = .int .i64 i)
  H24 : Hid (l24 = true → x135 = .pointer (some ⟨b2, o2 + i * 2, none⟩))
  H25 : Hid (l25 = true → x136 = .pointer (some ⟨b2, o2 + i * 2 + 1, none⟩))
  H26 : Hid (l26 = true → x137 = .string v2)
  H27 : Hid (l27 = true → x138 = .string (lowerB v1))
  H28 : Hid (l28 = true → x139 = .bool false)
  H29 : Hid (l29 = true → x140 = .bool false)
  HBB : Hid (Below w.heap.size w w')
  HB2 : Hid (Below w10.heap.size w10 w')
def caseInv (y0 y1 y2 y3 y4 y6 y8 y10 y11 y12 y13 y14 y15 y16 y17 y18 y19 y20 y21 y22 y23 y24 y25 y26 y27 y28 y29 y30 y31 y32 y33 y34 y35 y36 y37 y38 y39 y40 y41 y42 y43 y44 y45 y46 y47 y48 y49 y50 y51 y52 y53 y54 y55 y56 y57 y58 y59 y60 y61 y62 y63 y64 y65 y66 y67 y68 y69 y70 y71 y72 y73 y74 y75 y76 y77 y78 y79 y80 y81 y82 y83 y84 y85 y86 y87 y88 y89 y90 y91 y92 y93 y94 y95 y96 y97 y98 y99 y100 y101 y102 y103 y104 y105 y106 y107 y108 y109 y110 : Value) (i b1 o1 b2 o2 LN c1 c2 T5 T7 : Nat) (nmx v1 v2 : ByteArray) (w w10 : World) (L : Array Bool) (a : Act) (w' : World) : Prop :=
  ∃ st : caseInvSt y0 y1 y2 y3 y4 y6 y8 y10 y11 y12 y13 y14 y15 y16 y17 y18 y19 y20 y21 y22 y23 y24 y25 y26 y27 y28 y29 y30 y31 y32 y33 y34 y35 y36 y37 y38 y39 y40 y41 y42 y43 y44 y45 y46 y47 y48 y49 y50 y51 y52 y53 y54 y55 y56 y57 y58 y59 y60 y61 y62 y63 y64 y65 y66 y67 y68 y69 y70 y71 y72 y73 y74 y75 y76 y77 y78 y79 y80 y81 y82 y83 y84 y85 y86 y87 y88 y89 y90 y91 y92 y93 y94 y95 y96 y97 y98 y99 y100 y101 y102 y103 y104 y105 y106 y107 y108 y109 y110 i b1 o1 b2 o2 LN c1 c2 T5 T7 nmx v1 v2 w w10 w', L = #[st.l0, st.l1, st.l2, st.l3, st.l4, st.l5, st.l6, st.l7, st.l8, st.l9, st.l10, st.l11, st.l12, st.l13, st.l14, st.l15, st.l16, st.l17, st.l18, st.l19, st.l20, st.l21, st.l22, st.l23, st.l24, st.l25, st.l26, st.l27, st.l28, st.l29] ∧ a = { tmps := #[y0, y1, y2, y3, y4, .pointer (some ⟨T5, 0, none⟩), y6, .pointer (some ⟨T7, 0, none⟩), y8, .int .i64 i, y10, y11, y12, y13, y14, y15, y16, y17, y18, y19, y20, y21, y22, y23, y24, y25, y26, y27, y28, y29, y30, y31, y32, y33, y34, y35, y36, y37, y38, y39, y40, y41, y42, y43, y44, y45, y46, y47, y48, y49, y50, y51, y52, y53, y54, y55, y56, y57, y58, y59, y60, y61, y62, y63, y64, y65, y66, y67, y68, y69, y70, y71, y72, y73, y74, y75, y76, y77, y78, y79, y80, y81, y82, y83, y84, y85, y86, y87, y88, y89, y90, y91, y92, y93, y94, y95, y96, y97, y98, y99, y100, y101, y102, y103, y104, y105, y106, y107, y108, y109, y110, st.x111, st.x112, st.x113, st.x114, st.x115, st.x116, st.x117, st.x118, st.x119, st.x120, st.x121, st.x122, st.x123, st.x124, st.x125, st.x126, st.x127, st.x128, st.x129, st.x130, st.x131, st.x132, st.x133, st.x134, st.x135, st.x136, st.x137, st.x138, st.x139, st.x140], defers := [] }

set_option maxRecDepth 100000 in
set_option maxHeartbeats 8000000 in
theorem case_step (y0 y1 y2 y3 y4 y6 y8 y10 y11 y12 y13 y14 y15 y16 y17 y18 y19 y20 y21 y22 y23 y24 y25 y26 y27 y28 y29 y30 y31 y32 y33 y34 y35 y36 y37 y38 y39 y40 y41 y42 y43 y44 y45 y46 y47 y48 y49 y50 y51 y52 y53 y54 y55 y56 y57 y58 y59 y60 y61 y62 y63 y64 y65 y66 y67 y68 y69 y70 y71 y72 y73 y74 y75 y76 y77 y78 y79 y80 y81 y82 y83 y84 y85 y86 y87 y88 y89 y90 y91 y92 y93 y94 y95 y96 y97 y98 y99 y100 y101 y102 y103 y104 y105 y106 y107 y108 y109 y110 : Value) (i b1 o1 b2 o2 L c1 c2 T5 T7 : Nat) (nmx v1 v2 : ByteArray) (w w10 : World) (Q : Exit → Act → World → Prop) (hlt : i < L)
    (LW1 : Hid (∀ W, Calls Try.prog 12 #[.string v1] W fun e w' => e = .returned (.string (lowerB v1)) ∧ Below W.heap.size W w'))
    (LW2 : Hid (∀ W, Calls Try.prog 12 #[.string v2] W fun e w' => e = .returned (.string (lowerB v1)) ∧ Below W.heap.size W w'))
    (q3 : w10.cell? ⟨T5, 3, none⟩ = some (.slice (some ⟨b1, o1, none⟩) L c1)) (g3 : w10.cell? ⟨T7, 3, none⟩ = some (.slice (some ⟨b2, o2, none⟩) L c2))
    (n1 : w10.cell? ⟨b1, o1 + i * 2, none⟩ = some (.string nmx)) (n2 : w10.cell? ⟨b2, o2 + i * 2, none⟩ = some (.string nmx)) (m1 : w10.cell? ⟨b1, o1 + i * 2 + 1, none⟩ = some (.string v1)) (m2 : w10.cell? ⟨b2, o2 + i * 2 + 1, none⟩ = some (.string v2))
    (hl1 : T5 < w10.heap.size) (hl2 : T7 < w10.heap.size) (hbl1 : b1 < w10.heap.size) (hbl2 : b2 < w10.heap.size) :
    ∀ (L0 : Array Bool) (a : Act) (w' : World) (ix : Nat) (o : Oper), caseInv y0 y1 y2 y3 y4 y6 y8 y10 y11 y12 y13 y14 y15 y16 y17 y18 y19 y20 y21 y22 y23 y24 y25 y26 y27 y28 y29 y30 y31 y32 y33 y34 y35 y36 y37 y38 y39 y40 y41 y42 y43 y44 y45 y46 y47 y48 y49 y50 y51 y52 y53 y54 y55 y56 y57 y58 y59 y60 y61 y62 y63 y64 y65 y66 y67 y68 y69 y70 y71 y72 y73 y74 y75 y76 y77 y78 y79 y80 y81 y82 y83 y84 y85 y86 y87 y88 y89 y90 y91 y92 y93 y94 y95 y96 y97 y98 y99 y100 y101 y102 y103 y104 y105 y106 y107 y108 y109 y110 i b1 o1 b2 o2 L c1 c2 T5 T7 nmx v1 v2 w w10 L0 a w' → caseOps[ix]? = some o → L0.getD ix true = false → (∀ e ∈ o.after, Region.binds .any e = true → L0.getD e.on false = true) →
      wpList Try.prog caseOps.toArray (nq Q (caseInv y0 y1 y2 y3 y4 y6 y8 y10 y11 y12 y13 y14 y15 y16 y17 y18 y19 y20 y21 y22 y23 y24 y25 y26 y27 y28 y29 y30 y31 y32 y33 y34 y35 y36 y37 y38 y39 y40 y41 y42 y43 y44 y45 y46 y47 y48 y49 y50 y51 y52 y53 y54 y55 y56 y57 y58 y59 y60 y61 y62 y63 y64 y65 y66 y67 y68 y69 y70 y71 y72 y73 y74 y75 y76 y77 y78 y79 y80 y81 y82 y83 y84 y85 y86 y87 y88 y89 y90 y91 y92 y93 y94 y95 y96 y97 y98 y99 y100 y101 y102 y103 y104 y105 y106 y107 y108 y109 y110 i b1 o1 b2 o2 L c1 c2 T5 T7 nmx v1 v2 w w10 (L0.setIfInBounds ix true))) [o] a w' := by
  have hlt' : (i : Int) < (L : Int) := by omega
  unfold caseOps
  rintro L0 a w' ix o ⟨st, rfl, rfl⟩ ho hl haf
  cases st with
  | mk l0 l1 l2 l3 l4 l5 l6 l7 l8 l9 l10 l11 l12 l13 l14 l15 l16 l17 l18 l19 l20 l21 l22 l23 l24 l25 l26 l27 l28 l29 x111 x112 x113 x114 x115 x116 x117 x118 x119 x120 x121 x122 x123 x124 x125 x126 x127 x128 x129 x130 x131 x132 x133 x134 x135 x136 x137 x138 x139 x140 H0 H1 H2 H3 H4 H5 H6 H7 H8 H9 H10 H11 H12 H13 H14 H15 H16 H17 H18 H19 H20 H21 H22 H23 H24 H25 H26 H27 H28 H29 HBB HB2 =>
  dsimp only at ho hl haf ⊢
  rcases ix with _ | _ | _ | _ | _ | _ | _ | _ | _ | _ | _ | _ | _ | _ | _ | _ | _ | _ | _ | _ | _ | _ | _ | _ | _ | _ | _ | _ | _ | _ | ix
  · obtain rfl : _ = o := Option.some.inj ho
    have hl : l0 = false := hl
    subst hl
    go_wp2_with fail
    exact ⟨⟨true, _, _, _, _, _, _, _, _, _, _, _, _, _, _, _, _, _, _, _, _, _, _, _, _, _, _, _, _, _, _, _, _, _, _, _, _, _, _, _, _, _, _, _, _, _, _, _, _, _, _, _, _, _, _, _, _, _, _, _, (fun _ => rfl), H1, H2, H3, H4, H5, H6, H7, H8, H9, H10, H11, H12, H13, H14, H15, H16, H17, H18, H19, H20, H21, H22, H23, H24, H25, H26, H27, H28, H29, HBB, HB2⟩, rfl, rfl⟩
  · obtain rfl : _ = o := Option.some.inj ho
    have hl : l1 = false := hl
    subst hl
    have d0 : l0 = true := haf ⟨0, .data⟩ (by simp) rfl
    obtain rfl := H0.out d0
    subst d0
    obtain ⟨hc, hf⟩ := bcell HB2.out
    go_wp2_with fail
    exact ⟨⟨_, true, _, _, _, _, _, _, _, _, _, _, _, _, _, _, _, _, _, _, _, _, _, _, _, _, _, _, _, _, _, _, _, _, _, _, _, _, _, _, _, _, _, _, _, _, _, _, _, _, _, _, _, _, _, _, _, _, _, _, (fun _ => rfl), (fun _ => rfl), H2, H3, H4, H5, H6, H7, H8, H9, H10, H11, H12, H13, H14, H15, H16, H17, H18, H19, H20, H21, H22, H23, H24, H25, H26, H27, H28, H29, HBB, HB2⟩, rfl, rfl⟩
  · obtain rfl : _ = o := Option.some.inj ho
    have hl : l2 = false := hl
    subst hl
    go_wp2_with fail
    exact ⟨⟨_, _, true, _, _, _, _, _, _, _, _, _, _, _, _, _, _, _, _, _, _, _, _, _, _, _, _, _, _, _, _, _, _, _, _, _, _, _, _, _, _, _, _, _, _, _, _, _, _, _, _, _, _, _, _, _, _, _, _, _, H0, H1, (fun _ => rfl), H3, H4, H5, H6, H7, H8, H9, H10, H11, H12, H13, H14, H15, H16, H17, H18, H19, H20, H21, H22, H23, H24, H25, H26, H27, H28, H29, HBB, HB2⟩, rfl, rfl⟩
  · obtain rfl : _ = o := Option.some.inj ho
    have hl : l3 = false := hl
    subst hl
    have d1 : l1 = true := haf ⟨1, .data⟩ (by simp) rfl
    obtain rfl := H1.out d1
    subst d1
    have d2 : l2 = true := haf ⟨2, .data⟩ (by simp) rfl
    obtain rfl := H2.out d2
    subst d2
    go_wp2_with fail
    exact ⟨⟨_, _, _, true, _, _, _, _, _, _, _, _, _, _, _, _, _, _, _, _, _, _, _, _, _, _, _, _, _, _, _, _, _, _, _, _, _, _, _, _, _, _, _, _, _, _, _, _, _, _, _, _, _, _, _, _, _, _, _, _, H0, (fun _ => rfl), (fun _ => rfl), (fun _ => rfl), H4, H5, H6, H7, H8, H9, H10, H11, H12, H13, H14, H15, H16, H17, H18, H19, H20, H21, H22, H23, H24, H25, H26, H27, H28, H29, HBB, HB2⟩, rfl, rfl⟩
  · obtain rfl : _ = o := Option.some.inj ho
    have hl : l4 = false := hl
    subst hl
    have d3 : l3 = true := haf ⟨3, .data⟩ (by simp) rfl
    obtain rfl := H3.out d3
    subst d3
    go_wp2_with fail
    exact ⟨⟨_, _, _, _, true, _, _, _, _, _, _, _, _, _, _, _, _, _, _, _, _, _, _, _, _, _, _, _, _, _, _, _, _, _, _, _, _, _, _, _, _, _, _, _, _, _, _, _, _, _, _, _, _, _, _, _, _, _, _, _, H0, H1, H2, (fun _ => rfl), (fun _ => rfl), H5, H6, H7, H8, H9, H10, H11, H12, H13, H14, H15, H16, H17, H18, H19, H20, H21, H22, H23, H24, H25, H26, H27, H28, H29, HBB, HB2⟩, rfl, rfl⟩
  · obtain rfl : _ = o := Option.some.inj ho
    have hl : l5 = false := hl
    subst hl
    have d4 : l4 = true := haf ⟨4, .data⟩ (by simp) rfl
    obtain rfl := H4.out d4
    subst d4
    obtain ⟨hc, hf⟩ := bcell HB2.out
    go_wp2_with fail
    exact ⟨⟨_, _, _, _, _, true, _, _, _, _, _, _, _, _, _, _, _, _, _, _, _, _, _, _, _, _, _, _, _, _, _, _, _, _, _, _, _, _, _, _, _, _, _, _, _, _, _, _, _, _, _, _, _, _, _, _, _, _, _, _, H0, H1, H2, H3, (fun _ => rfl), (fun _ => rfl), H6, H7, H8, H9, H10, H11, H12, H13, H14, H15, H16, H17, H18, H19, H20, H21, H22, H23, H24, H25, H26, H27, H28, H29, HBB, HB2⟩, rfl, rfl⟩
  · obtain rfl : _ = o := Option.some.inj ho
    have hl : l6 = false := hl
    subst hl
    go_wp2_with fail
    exact ⟨⟨_, _, _, _, _, _, true, _, _, _, _, _, _, _, _, _, _, _, _, _, _, _, _, _, _, _, _, _, _, _, _, _, _, _, _, _, _, _, _, _, _, _, _, _, _, _, _, _, _, _, _, _, _, _, _, _, _, _, _, _, H0, H1, H2, H3, H4, H5, (fun _ => rfl), H7, H8, H9, H10, H11, H12, H13, H14, H15, H16, H17, H18, H19, H20, H21, H22, H23, H24, H25, H26, H27, H28, H29, HBB, HB2⟩, rfl, rfl⟩
  · obtain rfl : _ = o := Option.some.inj ho
    have hl : l7 = false := hl
    subst hl
    have d6 : l6 = true := haf ⟨6, .data⟩ (by simp) rfl
    obtain rfl := H6.out d6
    subst d6
    obtain ⟨hc, hf⟩ := bcell HB2.out
    go_wp2_with fail
    exact ⟨⟨_, _, _, _, _, _, _, true, _, _, _, _, _, _, _, _, _, _, _, _, _, _, _, _, _, _, _, _, _, _, _, _, _, _, _, _, _, _, _, _, _, _, _, _, _, _, _, _, _, _, _, _, _, _, _, _, _, _, _, _, H0, H1, H2, H3, H4, H5, (fun _ => rfl), (fun _ => rfl), H8, H9, H10, H11, H12, H13, H14, H15, H16, H17, H18, H19, H20, H21, H22, H23, H24, H25, H26, H27, H28, H29, HBB, HB2⟩, rfl, rfl⟩
  · obtain rfl : _ = o := Option.some.inj ho
    have hl : l8 = false := hl
    subst hl
    go_wp2_with fail
    exact ⟨⟨_, _, _, _, _, _, _, _, true, _, _, _, _, _, _, _, _, _, _, _, _, _, _, _, _, _, _, _, _, _, _, _, _, _, _, _, _, _, _, _, _, _, _, _, _, _, _, _, _, _, _, _, _, _, _, _, _, _, _, _, H0, H1, H2, H3, H4, H5, H6, H7, (fun _ => rfl), H9, H10, H11, H12, H13, H14, H15, H16, H17, H18, H19, H20, H21, H22, H23, H24, H25, H26, H27, H28, H29, HBB, HB2⟩, rfl, rfl⟩
  · obtain rfl : _ = o := Option.some.inj ho
    have hl : l9 = false := hl
    subst hl
    have d7 : l7 = true := haf ⟨7, .data⟩ (by simp) rfl
    obtain rfl := H7.out d7
    subst d7
    have d8 : l8 = true := haf ⟨8, .data⟩ (by simp) rfl
    obtain rfl := H8.out d8
    subst d8
    go_wp2_with fail
    exact ⟨⟨_, _, _, _, _, _, _, _, _, true, _, _, _, _, _, _, _, _, _, _, _, _, _, _, _, _, _, _, _, _, _, _, _, _, _, _, _, _, _, _, _, _, _, _, _, _, _, _, _, _, _, _, _, _, _, _, _, _, _, _, H0, H1, H2, H3, H4, H5, H6, (fun _ => rfl), (fun _ => rfl), (fun _ => rfl), H10, H11, H12, H13, H14, H15, H16, H17, H18, H19, H20, H21, H22, H23, H24, H25, H26, H27, H28, H29, HBB, HB2⟩, rfl, rfl⟩
  · obtain rfl : _ = o := Option.some.inj ho
    have hl : l10 = false := hl
    subst hl
    have d9 : l9 = true := haf ⟨9, .data⟩ (by simp) rfl
    obtain rfl := H9.out d9
    subst d9
    go_wp2_with fail
    exact ⟨⟨_, _, _, _, _, _, _, _, _, _, true, _, _, _, _, _, _, _, _, _, _, _, _, _, _, _, _, _, _, _, _, _, _, _, _, _, _, _, _, _, _, _, _, _, _, _, _, _, _, _, _, _, _, _, _, _, _, _, _, _, H0, H1, H2, H3, H4, H5, H6, H7, H8, (fun _ => rfl), (fun _ => rfl), H11, H12, H13, H14, H15, H16, H17, H18, H19, H20, H21, H22, H23, H24, H25, H26, H27, H28, H29, HBB, HB2⟩, rfl, rfl⟩
  · obtain rfl : _ = o := Option.some.inj ho
    have hl : l11 = false := hl
    subst hl
    have d10 : l10 = true := haf ⟨10, .data⟩ (by simp) rfl
    obtain rfl := H10.out d10
    subst d10
    obtain ⟨hc, hf⟩ := bcell HB2.out
    go_wp2_with fail
    exact ⟨⟨_, _, _, _, _, _, _, _, _, _, _, true, _, _, _, _, _, _, _, _, _, _, _, _, _, _, _, _, _, _, _, _, _, _, _, _, _, _, _, _, _, _, _, _, _, _, _, _, _, _, _, _, _, _, _, _, _, _, _, _, H0, H1, H2, H3, H4, H5, H6, H7, H8, H9, (fun _ => rfl), (fun _ => rfl), H12, H13, H14, H15, H16, H17, H18, H19, H20, H21, H22, H23, H24, H25, H26, H27, H28, H29, HBB, HB2⟩, rfl, rfl⟩
  · obtain rfl : _ = o := Option.some.inj ho
    have hl : l12 = false := hl
    subst hl
    have d5 : l5 = true := haf ⟨5, .data⟩ (by simp) rfl
    obtain rfl := H5.out d5
    subst d5
    have d11 : l11 = true := haf ⟨11, .data⟩ (by simp) rfl
    obtain rfl := H11.out d11
    subst d11
    go_wp2_with fail
    exact ⟨⟨_, _, _, _, _, _, _, _, _, _, _, _, true, _, _, _, _, _, _, _, _, _, _, _, _, _, _, _, _, _, _, _, _, _, _, _, _, _, _, _, _, _, _, _, _, _, _, _, _, _, _, _, _, _, _, _, _, _, _, _, H0, H1, H2, H3, H4, (fun _ => rfl), H6, H7, H8, H9, H10, (fun _ => rfl), (fun _ => rfl), H13, H14, H15, H16, H17, H18, H19, H20, H21, H22, H23, H24, H25, H26, H27, H28, H29, HBB, HB2⟩, rfl, rfl⟩
  · obtain rfl : _ = o := Option.some.inj ho
    have hl : l13 = false := hl
    subst hl
    have d12 : l12 = true := haf ⟨12, .data⟩ (by simp) rfl
    obtain rfl := H12.out d12
    subst d12
    go_wp2_with fail
    exact ⟨⟨_, _, _, _, _, _, _, _, _, _, _, _, _, true, _, _, _, _, _, _, _, _, _, _, _, _, _, _, _, _, _, _, _, _, _, _, _, _, _, _, _, _, _, _, _, _, _, _, _, _, _, _, _, _, _, _, _, _, _, _, H0, H1, H2, H3, H4, H5, H6, H7, H8, H9, H10, H11, (fun _ => rfl), (fun _ => rfl), H14, H15, H16, H17, H18, H19, H20, H21, H22, H23, H24, H25, H26, H27, H28, H29, HBB, HB2⟩, rfl, rfl⟩
  · obtain rfl : _ = o := Option.some.inj ho
    have hl : l14 = false := hl
    subst hl
    have d13 : l13 = true := haf ⟨13, .guard⟩ (by simp) rfl
    obtain rfl := H13.out d13
    subst d13
    go_wp2_with fail
    exact ⟨⟨_, _, _, _, _, _, _, _, _, _, _, _, _, _, true, _, _, _, _, _, _, _, _, _, _, _, _, _, _, _, _, _, _, _, _, _, _, _, _, _, _, _, _, _, _, _, _, _, _, _, _, _, _, _, _, _, _, _, _, _, H0, H1, H2, H3, H4, H5, H6, H7, H8, H9, H10, H11, H12, (fun _ => rfl), (fun _ => rfl), H15, H16, H17, H18, H19, H20, H21, H22, H23, H24, H25, H26, H27, H28, H29, HBB, HB2⟩, rfl, rfl⟩
  · obtain rfl : _ = o := Option.some.inj ho
    have hl : l15 = false := hl
    subst hl
    have d14 : l14 = true := haf ⟨14, .data⟩ (by simp) rfl
    obtain rfl := H14.out d14
    subst d14
    have d13 : l13 = true := haf ⟨13, .guard⟩ (by simp) rfl
    obtain rfl := H13.out d13
    subst d13
    obtain ⟨hc, hf⟩ := bcell HB2.out
    go_wp2_with fail
    exact ⟨⟨_, _, _, _, _, _, _, _, _, _, _, _, _, _, _, true, _, _, _, _, _, _, _, _, _, _, _, _, _, _, _, _, _, _, _, _, _, _, _, _, _, _, _, _, _, _, _, _, _, _, _, _, _, _, _, _, _, _, _, _, H0, H1, H2, H3, H4, H5, H6, H7, H8, H9, H10, H11, H12, (fun _ => rfl), (fun _ => rfl), (fun _ => rfl), H16, H17, H18, H19, H20, H21, H22, H23, H24, H25, H26, H27, H28, H29, HBB, HB2⟩, rfl, rfl⟩
  · obtain rfl : _ = o := Option.some.inj ho
    have hl : l16 = false := hl
    subst hl
    have d13 : l13 = true := haf ⟨13, .guard⟩ (by simp) rfl
    obtain rfl := H13.out d13
    subst d13
    go_wp2_with fail
    exact ⟨⟨_, _, _, _, _, _, _, _, _, _, _, _, _, _, _, _, true, _, _, _, _, _, _, _, _, _, _, _, _, _, _, _, _, _, _, _, _, _, _, _, _, _, _, _, _, _, _, _, _, _, _, _, _, _, _, _, _, _, _, _, H0, H1, H2, H3, H4, H5, H6, H7, H8, H9, H10, H11, H12, (fun _ => rfl), H14, H15, (fun _ => rfl), H17, H18, H19, H20, H21, H22, H23, H24, H25, H26, H27, H28, H29, HBB, HB2⟩, rfl, rfl⟩
  · obtain rfl : _ = o := Option.some.inj ho
    have hl : l17 = false := hl
    subst hl
    have d15 : l15 = true := haf ⟨15, .data⟩ (by simp) rfl
    obtain rfl := H15.out d15
    subst d15
    have d16 : l16 = true := haf ⟨16, .data⟩ (by simp) rfl
    obtain rfl := H16.out d16
    subst d16
    have d13 : l13 = true := haf ⟨13, .guard⟩ (by simp) rfl
    obtain rfl := H13.out d13
    subst d13
    go_wp2_with fail
    exact ⟨⟨_, _, _, _, _, _, _, _, _, _, _, _, _, _, _, _, _, true, _, _, _, _, _, _, _, _, _, _, _, _, _, _, _, _, _, _, _, _, _, _, _, _, _, _, _, _, _, _, _, _, _, _, _, _, _, _, _, _, _, _, H0, H1, H2, H3, H4, H5, H6, H7, H8, H9, H10, H11, H12, (fun _ => rfl), H14, (fun _ => rfl), (fun _ => rfl), (fun _ => rfl), H18, H19, H20, H21, H22, H23, H24, H25, H26, H27, H28, H29, HBB, HB2⟩, rfl, rfl⟩
  · obtain rfl : _ = o := Option.some.inj ho
    have hl : l18 = false := hl
    subst hl
    have d17 : l17 = true := haf ⟨17, .data⟩ (by simp) rfl
    obtain rfl := H17.out d17
    subst d17
    have d13 : l13 = true := haf ⟨13, .guard⟩ (by simp) rfl
    obtain rfl := H13.out d13
    subst d13
    go_wp2_with fail
    exact ⟨⟨_, _, _, _, _, _, _, _, _, _, _, _, _, _, _, _, _, _, true, _, _, _, _, _, _, _, _, _, _, _, _, _, _, _, _, _, _, _, _, _, _, _, _, _, _, _, _, _, _, _, _, _, _, _, _, _, _, _, _, _, H0, H1, H2, H3, H4, H5, H6, H7, H8, H9, H10, H11, H12, (fun _ => rfl), H14, H15, H16, (fun _ => rfl), (fun _ => rfl), H19, H20, H21, H22, H23, H24, H25, H26, H27, H28, H29, HBB, HB2⟩, rfl, rfl⟩
  · obtain rfl : _ = o := Option.some.inj ho
    have hl : l19 = false := hl
    subst hl
    have d18 : l18 = true := haf ⟨18, .data⟩ (by simp) rfl
    obtain rfl := H18.out d18
    subst d18
    have d13 : l13 = true := haf ⟨13, .guard⟩ (by simp) rfl
    obtain rfl := H13.out d13
    subst d13
    obtain ⟨hc, hf⟩ := bcell HB2.out
    go_wp2_with fail
    exact ⟨⟨_, _, _, _, _, _, _, _, _, _, _, _, _, _, _, _, _, _, _, true, _, _, _, _, _, _, _, _, _, _, _, _, _, _, _, _, _, _, _, _, _, _, _, _, _, _, _, _, _, _, _, _, _, _, _, _, _, _, _, _, H0, H1, H2, H3, H4, H5, H6, H7, H8, H9, H10, H11, H12, (fun _ => rfl), H14, H15, H16, H17, (fun _ => rfl), (fun _ => rfl), H20, H21, H22, H23, H24, H25, H26, H27, H28, H29, HBB, HB2⟩, rfl, rfl⟩
  · obtain rfl : _ = o := Option.some.inj ho
    have hl : l20 = false := hl
    subst hl
    have d19 : l19 = true := haf ⟨19, .data⟩ (by simp) rfl
    obtain rfl := H19.out d19
    subst d19
    have d13 : l13 = true := haf ⟨13, .guard⟩ (by simp) rfl
    obtain rfl := H13.out d13
    subst d13
    go_wp2_with fail
    refine (LW1.out _).mono ?_
    rintro e w2 ⟨rfl, hb1⟩
    go_wp2_with fail
    exact ⟨⟨_, _, _, _, _, _, _, _, _, _, _, _, _, _, _, _, _, _, _, _, true, _, _, _, _, _, _, _, _, _, _, _, _, _, _, _, _, _, _, _, _, _, _, _, _, _, _, _, _, _, _, _, _, _, _, _, _, _, _, _, H0, H1, H2, H3, H4, H5, H6, H7, H8, H9, H10, H11, H12, (fun _ => rfl), H14, H15, H16, H17, H18, (fun _ => rfl), (fun _ => rfl), H21, H22, H23, H24, H25, H26, H27, H28, H29, (HBB.out.trans (hb1.mono HBB.out.size)), (HB2.out.trans (hb1.mono HB2.out.size))⟩, rfl, rfl⟩
  · obtain rfl : _ = o := Option.some.inj ho
    have hl : l21 = false := hl
    subst hl
    have d13 : l13 = true := haf ⟨13, .guard⟩ (by simp) rfl
    obtain rfl := H13.out d13
    subst d13
    go_wp2_with fail
    exact ⟨⟨_, _, _, _, _, _, _, _, _, _, _, _, _, _, _, _, _, _, _, _, _, true, _, _, _, _, _, _, _, _, _, _, _, _, _, _, _, _, _, _, _, _, _, _, _, _, _, _, _, _, _, _, _, _, _, _, _, _, _, _, H0, H1, H2, H3, H4, H5, H6, H7, H8, H9, H10, H11, H12, (fun _ => rfl), H14, H15, H16, H17, H18, H19, H20, (fun _ => rfl), H22, H23, H24, H25, H26, H27, H28, H29, HBB, HB2⟩, rfl, rfl⟩
  · obtain rfl : _ = o := Option.some.inj ho
    have hl : l22 = false := hl
    subst hl
    have d21 : l21 = true := haf ⟨21, .data⟩ (by simp) rfl
    obtain rfl := H21.out d21
    subst d21
    have d13 : l13 = true := haf ⟨13, .guard⟩ (by simp) rfl
    obtain rfl := H13.out d13
    subst d13
    obtain ⟨hc, hf⟩ := bcell HB2.out
    go_wp2_with fail
    exact ⟨⟨_, _, _, _, _, _, _, _, _, _, _, _, _, _, _, _, _, _, _, _, _, _, true, _, _, _, _, _, _, _, _, _, _, _, _, _, _, _, _, _, _, _, _, _, _, _, _, _, _, _, _, _, _, _, _, _, _, _, _, _, H0, H1, H2, H3, H4, H5, H6, H7, H8, H9, H10, H11, H12, (fun _ => rfl), H14, H15, H16, H17, H18, H19, H20, (fun _ => rfl), (fun _ => rfl), H23, H24, H25, H26, H27, H28, H29, HBB, HB2⟩, rfl, rfl⟩
  · obtain rfl : _ = o := Option.some.inj ho
    have hl : l23 = false := hl
    subst hl
    have d13 : l13 = true := haf ⟨13, .guard⟩ (by simp) rfl
    obtain rfl := H13.out d13
    subst d13
    go_wp2_with fail
    exact ⟨⟨_, _, _, _, _, _, _, _, _, _, _, _, _, _, _, _, _, _, _, _, _, _, _, true, _, _, _, _, _, _, _, _, _, _, _, _, _, _, _, _, _, _, _, _, _, _, _, _, _, _, _, _, _, _, _, _, _, _, _, _, H0, H1, H2, H3, H4, H5, H6, H7, H8, H9, H10, H11, H12, (fun _ => rfl), H14, H15, H16, H17, H18, H19, H20, H21, H22, (fun _ => rfl), H24, H25, H26, H27, H28, H29, HBB, HB2⟩, rfl, rfl⟩
  · obtain rfl : _ = o := Option.some.inj ho
    have hl : l24 = false := hl
    subst hl
    have d22 : l22 = true := haf ⟨22, .data⟩ (by simp) rfl
    obtain rfl := H22.out d22
    subst d22
    have d23 : l23 = true := haf ⟨23, .data⟩ (by simp) rfl
    obtain rfl := H23.out d23
    subst d23
    have d13 : l13 = true := haf ⟨13, .guard⟩ (by simp) rfl
    obtain rfl := H13.out d13
    subst d13
    go_wp2_with fail
    exact ⟨⟨_, _, _, _, _, _, _, _, _, _, _, _, _, _, _, _, _, _, _, _, _, _, _, _, true, _, _, _, _, _, _, _, _, _, _, _, _, _, _, _, _, _, _, _, _, _, _, _, _, _, _, _, _, _, _, _, _, _, _, _, H0, H1, H2, H3, H4, H5, H6, H7, H8, H9, H10, H11, H12, (fun _ => rfl), H14, H15, H16, H17, H18, H19, H20, H21, (fun _ => rfl), (fun _ => rfl), (fun _ => rfl), H25, H26, H27, H28, H29, HBB, HB2⟩, rfl, rfl⟩
  · obtain rfl : _ = o := Option.some.inj ho
    have hl : l25 = false := hl
    subst hl
    have d24 : l24 = true := haf ⟨24, .data⟩ (by simp) rfl
    obtain rfl := H24.out d24
    subst d24
    have d13 : l13 = true := haf ⟨13, .guard⟩ (by simp) rfl
    obtain rfl := H13.out d13
    subst d13
    go_wp2_with fail
    exact ⟨⟨_, _, _, _, _, _, _, _, _, _, _, _, _, _, _, _, _, _, _, _, _, _, _, _, _, true, _, _, _, _, _, _, _, _, _, _, _, _, _, _, _, _, _, _, _, _, _, _, _, _, _, _, _, _, _, _, _, _, _, _, H0, H1, H2, H3, H4, H5, H6, H7, H8, H9, H10, H11, H12, (fun _ => rfl), H14, H15, H16, H17, H18, H19, H20, H21, H22, H23, (fun _ => rfl), (fun _ => rfl), H26, H27, H28, H29, HBB, HB2⟩, rfl, rfl⟩
  · obtain rfl : _ = o := Option.some.inj ho
    have hl : l26 = false := hl
    subst hl
    have d25 : l25 = true := haf ⟨25, .data⟩ (by simp) rfl
    obtain rfl := H25.out d25
    subst d25
    have d13 : l13 = true := haf ⟨13, .guard⟩ (by simp) rfl
    obtain rfl := H13.out d13
    subst d13
    obtain ⟨hc, hf⟩ := bcell HB2.out
    go_wp2_with fail
    exact ⟨⟨_, _, _, _, _, _, _, _, _, _, _, _, _, _, _, _, _, _, _, _, _, _, _, _, _, _, true, _, _, _, _, _, _, _, _, _, _, _, _, _, _, _, _, _, _, _, _, _, _, _, _, _, _, _, _, _, _, _, _, _, H0, H1, H2, H3, H4, H5, H6, H7, H8, H9, H10, H11, H12, (fun _ => rfl), H14, H15, H16, H17, H18, H19, H20, H21, H22, H23, H24, (fun _ => rfl), (fun _ => rfl), H27, H28, H29, HBB, HB2⟩, rfl, rfl⟩
  · obtain rfl : _ = o := Option.some.inj ho
    have hl : l27 = false := hl
    subst hl
    have d26 : l26 = true := haf ⟨26, .data⟩ (by simp) rfl
    obtain rfl := H26.out d26
    subst d26
    have d13 : l13 = true := haf ⟨13, .guard⟩ (by simp) rfl
    obtain rfl := H13.out d13
    subst d13
    go_wp2_with fail
    refine (LW2.out _).mono ?_
    rintro e w2 ⟨rfl, hb1⟩
    go_wp2_with fail
    exact ⟨⟨_, _, _, _, _, _, _, _, _, _, _, _, _, _, _, _, _, _, _, _, _, _, _, _, _, _, _, true, _, _, _, _, _, _, _, _, _, _, _, _, _, _, _, _, _, _, _, _, _, _, _, _, _, _, _, _, _, _, _, _, H0, H1, H2, H3, H4, H5, H6, H7, H8, H9, H10, H11, H12, (fun _ => rfl), H14, H15, H16, H17, H18, H19, H20, H21, H22, H23, H24, H25, (fun _ => rfl), (fun _ => rfl), H28, H29, (HBB.out.trans (hb1.mono HBB.out.size)), (HB2.out.trans (hb1.mono HB2.out.size))⟩, rfl, rfl⟩
  · obtain rfl : _ = o := Option.some.inj ho
    have hl : l28 = false := hl
    subst hl
    have d20 : l20 = true := haf ⟨20, .data⟩ (by simp) rfl
    obtain rfl := H20.out d20
    subst d20
    have d27 : l27 = true := haf ⟨27, .data⟩ (by simp) rfl
    obtain rfl := H27.out d27
    subst d27
    have d13 : l13 = true := haf ⟨13, .guard⟩ (by simp) rfl
    obtain rfl := H13.out d13
    subst d13
    go_wp2_with fail
    exact ⟨⟨_, _, _, _, _, _, _, _, _, _, _, _, _, _, _, _, _, _, _, _, _, _, _, _, _, _, _, _, true, _, _, _, _, _, _, _, _, _, _, _, _, _, _, _, _, _, _, _, _, _, _, _, _, _, _, _, _, _, _, _, H0, H1, H2, H3, H4, H5, H6, H7, H8, H9, H10, H11, H12, (fun _ => rfl), H14, H15, H16, H17, H18, H19, (fun _ => rfl), H21, H22, H23, H24, H25, H26, (fun _ => rfl), (fun _ => rfl), H29, HBB, HB2⟩, rfl, rfl⟩
  · obtain rfl : _ = o := Option.some.inj ho
    have hl : l29 = false := hl
    subst hl
    have d13 : l13 = true := haf ⟨13, .data⟩ (by simp) rfl
    obtain rfl := H13.out d13
    subst d13
    have d28 : l28 = true := haf ⟨28, .data⟩ (by simp) rfl
    obtain rfl := H28.out d28
    subst d28
    go_wp2_with fail
    exact ⟨⟨_, _, _, _, _, _, _, _, _, _, _, _, _, _, _, _, _, _, _, _, _, _, _, _, _, _, _, _, _, true, _, _, _, _, _, _, _, _, _, _, _, _, _, _, _, _, _, _, _, _, _, _, _, _, _, _, _, _, _, _, H0, H1, H2, H3, H4, H5, H6, H7, H8, H9, H10, H11, H12, (fun _ => rfl), H14, H15, H16, H17, H18, H19, H20, H21, H22, H23, H24, H25, H26, H27, (fun _ => rfl), (fun _ => rfl), HBB, HB2⟩, rfl, rfl⟩
  · exact absurd ho (by simp)
end Go.Proofs.Ytpkbmgpbagdalaa.tagCase
