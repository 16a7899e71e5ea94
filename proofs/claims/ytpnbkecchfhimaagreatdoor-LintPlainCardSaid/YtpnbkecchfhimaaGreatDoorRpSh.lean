/-
  DERIVED: THE SHELF's CONTRACTS AT THIS DUMP, IN PLAIN WORDS (tools/lay-plain.mjs out of 'YtpnbkecchfhimaaGreatDoorShRpSh.lean', which tools/lay-shelf.mjs wrote): THE SAME DECLARATIONS UNDER THE SAME NAMES: 'import', 'namespace', 'open', 'def', 'theorem' AND NOTHING ELSE: no command of the shelf's: FOR A HAND-IN. Each laying: the table of numbers ('.._ren') and one theorem, a field a fact of the dump's own or the kernel's comparison; each contract: ONE APPLICATION.
-/
import Derived.Test.YtpnbkecchfhimaaGreatDoorProg
import Derived.Shelf.LaysM
import Derived.Shelf.Strings.Count
namespace Go.Proofs
open Go.Shelf
def Tryz.laysRp138_ren : Go.Shelf.Ren := ⟨fun | 138 => 283 | 195 => 284 | 218 => 285 | 143 => 286 | 219 => 287 | 217 => 288 | 225 => 289 | 224 => 174 | 267 => 290 | 266 => 291 | 314 => 292 | n => n, fun | 9 => 9 | 3 => 3 | 4 => 4 | 5 => 5 | 0 => 0 | 46 => 129 | 146 => 251 | 51 => 135 | n => n, fun | 1 => 0 | n => n⟩
theorem Tryz.laysRp138 : Go.Proofs.Lays.n138 Tryz.prog Tryz.laysRp138_ren := {
  mixed := by kernel_rfl
  f138 := Tryz.func283.trans (congrArg some (by kernel_rfl))
  f143 := Tryz.func286.trans (congrArg some (by kernel_rfl))
  f195 := Tryz.func284.trans (congrArg some (by kernel_rfl))
  f217 := Tryz.func288.trans (congrArg some (by kernel_rfl))
  f218 := Tryz.func285.trans (congrArg some (by kernel_rfl))
  f219 := Tryz.func287.trans (congrArg some (by kernel_rfl))
  f224 := Tryz.func174.trans (congrArg some (by kernel_rfl))
  f225 := Tryz.func289.trans (congrArg some (by kernel_rfl))
  f266 := Tryz.func291.trans (congrArg some (by kernel_rfl))
  f267 := Tryz.func290.trans (congrArg some (by kernel_rfl))
  f314 := Tryz.func292.trans (congrArg some (by kernel_rfl))
  t0 := Tryz.underlying0
  a0 := Tryz.isAgg0
  z0 := Tryz.sizeOf0
  v0 := Tryz.zeroValue0
  t3 := Tryz.underlying3
  a3 := Tryz.isAgg3
  z3 := Tryz.sizeOf3
  v3 := Tryz.zeroValue3
  t4 := Tryz.underlying4
  a4 := Tryz.isAgg4
  z4 := Tryz.sizeOf4
  v4 := Tryz.zeroValue4
  t5 := Tryz.underlying5
  a5 := Tryz.isAgg5
  z5 := Tryz.sizeOf5
  v5 := Tryz.zeroValue5
  t9 := Tryz.underlying9
  a9 := Tryz.isAgg9
  z9 := Tryz.sizeOf9
  v9 := Tryz.zeroValue9
  t46 := Tryz.underlying129
  a46 := Tryz.isAgg129
  z46 := Tryz.sizeOf129
  v46 := Tryz.zeroValue129
  t51 := Tryz.underlying135
  a51 := Tryz.isAgg135
  z51 := Tryz.sizeOf135
  v51 := Tryz.zeroValue135
  t146 := Tryz.underlying251
  a146 := Tryz.isAgg251
  z146 := Tryz.sizeOf251
  v146 := Tryz.zeroValue251
  g1 := by kernel_rfl }
end Go.Proofs
