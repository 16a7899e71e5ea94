/- Chapter 21: elements' names, by bits: the constants; the map of lists: the walk. -/
import Derived.Test.YtlfbgaknljdanaaGreatDoorWords
import Derived.Test.YtlfbgaknljdanaaGreatDoorProg
import Derived.Maps.Own
import Derived.Maps.OwnOps
import Derived.Maps.RangeWalk
import Derived.Maps.StringElems
import Derived.Carry
import Derived.Lib.Hide
import Derived.Lib.Fields
import Derived.WalkKit
namespace Go.Proofs.YtlfbgaknljdanaaGreatDoor
open Go.RowKit Go.Maps
open Go.Lib (hid)
set_option linter.unusedVariables false
set_option maxRecDepth 100000

section
variable {H : Type}
/-- An entry of a map literal. -/
theorem wpList_insert_own {P : Program} (w : World) {ops : Array Oper} {rest : List Oper} {o : Oper} {a : Act} {Q : Exit → Act → World → Prop}
    (hg : o.guard = none) (m x v : Operand) (t : TypeId) (hop : o.op = Op.insert t m x v)
    (k e : TypeId) (K : Keyed P k) (ht : P.underlying t = some (.map k e)) (R : Value → Option (DataW H × List MemPlace)) (b n : Nat) (D : DataW H)
    (hm : a.eval m = .map (some b)) (hown : w.ownsMap P k R b n D) (hn : n < maxLen) (key val : Value) (kl : Lit) (hx : a.eval x = key) (hv : a.eval v = val) (hkey : keyOf P k key = some kl)
    (d : DataW H) (ps : List MemPlace) (hval : R val = some (d, ps))
    (hK : ∀ w', w'.ownsMap P k R b (n + 1) (D.put kl d) → w.grownBy w' (some b) → wpList P ops Q rest (a.put o.dst undef) w') :
    wpList P ops Q (o :: rest) a w := by
  refine wpList_plain hg fun K' hK' => ?_
  obtain ⟨w', hrun, r1, r2⟩ := hown.update K ht hn hkey hval
  unfold Oper.wp
  simp [execOp, hop, hm, hx, hv, hrun, Result.andThen]
  exact hK' _ _ (hK w' r1 r2)
end
def elT0 : ByteArray := ⟨#[97, 100, 100, 114, 101, 115, 115, 32, 97, 114, 116, 105, 99, 108, 101, 32, 97, 115, 105, 100, 101, 32, 98, 108, 111, 99, 107, 113, 117, 111, 116, 101, 32, 98, 111, 100, 121, 32, 99, 101, 110, 116, 101, 114, 32, 100, 100, 32, 100, 101, 116, 97, 105, 108, 115, 32, 100, 105, 97, 108, 111, 103, 32, 100, 105, 118, 32, 100, 108, 32, 100, 116, 32, 102, 105, 101, 108, 100, 115, 101, 116, 32, 102, 105, 103, 99, 97, 112, 116, 105, 111, 110, 32, 102, 105, 103, 117, 114, 101, 32, 102, 111, 111, 116, 101, 114, 32, 102, 111, 114, 109, 32, 104, 49, 32, 104, 50, 32, 104, 51, 32, 104, 52, 32, 104, 53, 32, 104, 54, 32, 104, 101, 97, 100, 101, 114, 32, 104, 114, 32, 104, 116, 109, 108, 32, 108, 105, 32, 109, 97, 105, 110, 32, 110, 97, 118, 32, 111, 108, 32, 112, 32, 112, 114, 101, 32, 115, 101, 99, 116, 105, 111, 110, 32, 115, 117, 109, 109, 97, 114, 121, 32, 116, 97, 98, 108, 101, 32, 116, 98, 111, 100, 121, 32, 116, 100, 32, 116, 102, 111, 111, 116, 32, 116, 104, 32, 116, 104, 101, 97, 100, 32, 116, 114, 32, 117, 108]⟩
def elT1 : ByteArray := ⟨#[97, 114, 101, 97, 32, 98, 97, 115, 101, 32, 98, 114, 32, 99, 111, 108, 32, 101, 109, 98, 101, 100, 32, 104, 114, 32, 105, 109, 103, 32, 105, 110, 112, 117, 116, 32, 108, 105, 110, 107, 32, 109, 101, 116, 97, 32, 115, 111, 117, 114, 99, 101, 32, 116, 114, 97, 99, 107, 32, 119, 98, 114]⟩
def elT2 : ByteArray := ⟨#[104, 101, 97, 100, 32, 110, 111, 115, 99, 114, 105, 112, 116, 32, 115, 99, 114, 105, 112, 116, 32, 115, 116, 121, 108, 101, 32, 116, 101, 109, 112, 108, 97, 116, 101, 32, 116, 105, 116, 108, 101]⟩
def elT3 : ByteArray := ⟨#[112, 114, 101]⟩
def elT4 : ByteArray := ⟨#[110, 111, 98, 114]⟩
def elT5 : ByteArray := ⟨#[98, 114]⟩
def elT6 : ByteArray := ⟨#[119, 98, 114]⟩
def elT (k : Nat) : ByteArray := match k with | 0 => elT0 | 1 => elT1 | 2 => elT2 | 3 => elT3 | 4 => elT4 | 5 => elT5 | 6 => elT6 | _ => ⟨#[]⟩
def elN0 : List ByteArray := [⟨#[97, 100, 100, 114, 101, 115, 115]⟩, ⟨#[97, 114, 116, 105, 99, 108, 101]⟩, ⟨#[97, 115, 105, 100, 101]⟩, ⟨#[98, 108, 111, 99, 107, 113, 117, 111, 116, 101]⟩, ⟨#[98, 111, 100, 121]⟩, ⟨#[99, 101, 110, 116, 101, 114]⟩, ⟨#[100, 100]⟩, ⟨#[100, 101, 116, 97, 105, 108, 115]⟩, ⟨#[100, 105, 97, 108, 111, 103]⟩, ⟨#[100, 105, 118]⟩, ⟨#[100, 108]⟩, ⟨#[100, 116]⟩, ⟨#[102, 105, 101, 108, 100, 115, 101, 116]⟩, ⟨#[102, 105, 103, 99, 97, 112, 116, 105, 111, 110]⟩, ⟨#[102, 105, 103, 117, 114, 101]⟩, ⟨#[102, 111, 111, 116, 101, 114]⟩, ⟨#[102, 111, 114, 109]⟩, ⟨#[104, 49]⟩, ⟨#[104, 50]⟩, ⟨#[104, 51]⟩, ⟨#[104, 52]⟩, ⟨#[104, 53]⟩, ⟨#[104, 54]⟩, ⟨#[104, 101, 97, 100, 101, 114]⟩, ⟨#[104, 114]⟩, ⟨#[104, 116, 109, 108]⟩, ⟨#[108, 105]⟩, ⟨#[109, 97, 105, 110]⟩, ⟨#[110, 97, 118]⟩, ⟨#[111, 108]⟩, ⟨#[112]⟩, ⟨#[112, 114, 101]⟩, ⟨#[115, 101, 99, 116, 105, 111, 110]⟩, ⟨#[115, 117, 109, 109, 97, 114, 121]⟩, ⟨#[116, 97, 98, 108, 101]⟩, ⟨#[116, 98, 111, 100, 121]⟩, ⟨#[116, 100]⟩, ⟨#[116, 102, 111, 111, 116]⟩, ⟨#[116, 104]⟩, ⟨#[116, 104, 101, 97, 100]⟩, ⟨#[116, 114]⟩, ⟨#[117, 108]⟩]
def elN1 : List ByteArray := [⟨#[97, 114, 101, 97]⟩, ⟨#[98, 97, 115, 101]⟩, ⟨#[98, 114]⟩, ⟨#[99, 111, 108]⟩, ⟨#[101, 109, 98, 101, 100]⟩, ⟨#[104, 114]⟩, ⟨#[105, 109, 103]⟩, ⟨#[105, 110, 112, 117, 116]⟩, ⟨#[108, 105, 110, 107]⟩, ⟨#[109, 101, 116, 97]⟩, ⟨#[115, 111, 117, 114, 99, 101]⟩, ⟨#[116, 114, 97, 99, 107]⟩, ⟨#[119, 98, 114]⟩]
def elN2 : List ByteArray := [⟨#[104, 101, 97, 100]⟩, ⟨#[110, 111, 115, 99, 114, 105, 112, 116]⟩, ⟨#[115, 99, 114, 105, 112, 116]⟩, ⟨#[115, 116, 121, 108, 101]⟩, ⟨#[116, 101, 109, 112, 108, 97, 116, 101]⟩, ⟨#[116, 105, 116, 108, 101]⟩]
def elN3 : List ByteArray := [⟨#[112, 114, 101]⟩]
def elN4 : List ByteArray := [⟨#[110, 111, 98, 114]⟩]
def elN5 : List ByteArray := [⟨#[98, 114]⟩]
def elN6 : List ByteArray := [⟨#[119, 98, 114]⟩]
def elN (k : Nat) : List ByteArray := match k with | 0 => elN0 | 1 => elN1 | 2 => elN2 | 3 => elN3 | 4 => elN4 | 5 => elN5 | 6 => elN6 | _ => []
theorem elF0 : Lib.fields elT0.data.toList = elN0.map (fun x => x.data.toList) := by kernel_rfl
theorem elF1 : Lib.fields elT1.data.toList = elN1.map (fun x => x.data.toList) := by kernel_rfl
theorem elF2 : Lib.fields elT2.data.toList = elN2.map (fun x => x.data.toList) := by kernel_rfl
theorem elF3 : Lib.fields elT3.data.toList = elN3.map (fun x => x.data.toList) := by kernel_rfl
theorem elF4 : Lib.fields elT4.data.toList = elN4.map (fun x => x.data.toList) := by kernel_rfl
theorem elF5 : Lib.fields elT5.data.toList = elN5.map (fun x => x.data.toList) := by kernel_rfl
theorem elF6 : Lib.fields elT6.data.toList = elN6.map (fun x => x.data.toList) := by kernel_rfl
def bitI (k : Nat) : Int := (2 : Int) ^ k
def intL (x : Int) : Lit := .int .i64 x
def strL (x : ByteArray) : Lit := .string x.data.toList
def elD : DataW Unit := (((((((DataW.map []).put (intL 1) (.lit (strL elT0))).put (intL 2) (.lit (strL elT1))).put (intL 4) (.lit (strL elT2))).put (intL 8) (.lit (strL elT3))).put (intL 16) (.lit (strL elT4))).put (intL 32) (.lit (strL elT5))).put (intL 64) (.lit (strL elT6))
set_option maxHeartbeats 2000000 in
theorem lists_any (w : World) : Calls Tryz.prog 97 #[] w fun e w' => e = .returned (.map (some w.heap.size)) ∧ w'.ownsMap Tryz.prog 3 (plainElem Tryz.prog 9) w.heap.size 7 elD ∧ Below w.heap.size w w' := by
  have hmm := @run_makeMap Tryz.prog
  have HOWN := hid (World.ownsMap_made (H := Unit) w Tryz.prog 3 (plainElem Tryz.prog 9))
  have HB := hid ((Below.refl w.heap.size w).alloc (Nat.le_refl _) (.map #[] 0))
  go_enter Tryz.func97, Tryz.ntmps97
  go_wp2_with ((refine wpList_insert_own _ rfl _ _ _ 154 rfl 3 9 (int_keyed Tryz.underlying3) Tryz.underlying154 (plainElem Tryz.prog 9) w.heap.size _ _ rfl HOWN.out (by unfold maxLen; omega) _ _ _ rfl rfl (keyOf_int_mk Tryz.underlying3 (by decide)) _ [] (plainElem_string Tryz.underlying9 (by decide)) ?_); intro w1 hown1 hgrow1; have HOWN := hid hown1; have HB := hid (HB.out.grown hgrow1 HB.out.size (fun k e => by cases e; exact Nat.le_refl _)); clear hown1 hgrow1)
  have hfin : ∀ (W : World) D, D = elD → W.ownsMap Tryz.prog 3 (plainElem Tryz.prog 9) w.heap.size 7 D → W.ownsMap Tryz.prog 3 (plainElem Tryz.prog 9) w.heap.size 7 elD := by
    rintro W D rfl h
    exact h
  go_ret
  exact ⟨rfl, hfin _ _ (by kernel_rfl) HOWN.out, HB.out⟩
end Go.Proofs.YtlfbgaknljdanaaGreatDoor
