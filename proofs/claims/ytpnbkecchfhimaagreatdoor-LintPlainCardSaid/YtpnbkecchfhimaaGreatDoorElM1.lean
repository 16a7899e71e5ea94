/- Texts of ElA, ElB, ElSh, ElC, merged by a program of mine. -/
import Derived.Test.YtpnbkecchfhimaaGreatDoorWords
import Derived.Test.YtpnbkecchfhimaaGreatDoorProg
import Derived.Maps.Own
import Derived.Maps.OwnOps
import Derived.Maps.RangeWalk
import Derived.Maps.StringElems
import Derived.Carry
import Derived.Lib.Hide
import Derived.Lib.Fields
import Derived.WalkKit
import Derived.Shelf.LaysM
import Derived.Shelf.Strings.SplitShaped
import Derived.Test.YtpnbkecchfhimaaGreatDoorByt
import Derived.Lib.LaidTab
import Derived.Deep.LoopGhost

/- out of ElA -/
namespace Go.Proofs.YtpnbkecchfhimaaGreatDoor
open Go.RowKit Go.Maps
open Go.Lib (hid)
set_option linter.unusedVariables false
set_option maxRecDepth 100000

section
variable {H : Type}
/-- An entry of a map literal. -/
theorem wpList_insert_own {P : Program} (w : World) {ops : Array Oper} {rest : List Oper} {o : Oper} {a : Act} {Q : Exit → Act → World → Prop}
    (hg : o.guard = none) (m x v : Operand) (t : TypeId) (hop : o.op = Op.insert t m x v)
    (k e : TypeId) (K : Keyed P k) (ht : P.underlying t = some (.map k e)) (R : Value → Option (DataW H × List MemPlace)) (b n : Nat) (D : DataW H)
    (hm : a.eval m = .map (some b)) (hown : w.ownsMap P k R b n D) (hn : n < maxLen) (key val : Value) (kl : Lit) (hx : a.eval x = key) (hv : a.eval v = val) (hkey : keyOf P k key = some kl)
    (d : DataW H) (ps : List MemPlace) (hval : R val = some (d, ps))
    (hK : ∀ w', w'.ownsMap P k R b (n + 1) (D.put kl d) → w.grownBy w' (some b) → wpList P ops Q rest (a.put o.dst undef) w') :
    wpList P ops Q (o :: rest) a w := by
  refine wpList_plain hg fun K' hK' => ?_
  obtain ⟨w', hrun, r1, r2⟩ := hown.update K ht hn hkey hval
  unfold Oper.wp
  simp [execOp, hop, hm, hx, hv, hrun, Result.andThen]
  exact hK' _ _ (hK w' r1 r2)
end
def elT0 : ByteArray := ⟨#[97, 100, 100, 114, 101, 115, 115, 32, 97, 114, 116, 105, 99, 108, 101, 32, 97, 115, 105, 100, 101, 32, 98, 108, 111, 99, 107, 113, 117, 111, 116, 101, 32, 98, 111, 100, 121, 32, 99, 101, 110, 116, 101, 114, 32, 100, 100, 32, 100, 101, 116, 97, 105, 108, 115, 32, 100, 105, 97, 108, 111, 103, 32, 100, 105, 118, 32, 100, 108, 32, 100, 116, 32, 102, 105, 101, 108, 100, 115, 101, 116, 32, 102, 105, 103, 99, 97, 112, 116, 105, 111, 110, 32, 102, 105, 103, 117, 114, 101, 32, 102, 111, 111, 116, 101, 114, 32, 102, 111, 114, 109, 32, 104, 49, 32, 104, 50, 32, 104, 51, 32, 104, 52, 32, 104, 53, 32, 104, 54, 32, 104, 101, 97, 100, 101, 114, 32, 104, 114, 32, 104, 116, 109, 108, 32, 108, 105, 32, 109, 97, 105, 110, 32, 110, 97, 118, 32, 111, 108, 32, 112, 32, 112, 114, 101, 32, 115, 101, 99, 116, 105, 111, 110, 32, 115, 117, 109, 109, 97, 114, 121, 32, 116, 97, 98, 108, 101, 32, 116, 98, 111, 100, 121, 32, 116, 100, 32, 116, 102, 111, 111, 116, 32, 116, 104, 32, 116, 104, 101, 97, 100, 32, 116, 114, 32, 117, 108]⟩
def elT1 : ByteArray := ⟨#[97, 114, 101, 97, 32, 98, 97, 115, 101, 32, 98, 114, 32, 99, 111, 108, 32, 101, 109, 98, 101, 100, 32, 104, 114, 32, 105, 109, 103, 32, 105, 110, 112, 117, 116, 32, 108, 105, 110, 107, 32, 109, 101, 116, 97, 32, 115, 111, 117, 114, 99, 101, 32, 116, 114, 97, 99, 107, 32, 119, 98, 114]⟩
def elT2 : ByteArray := ⟨#[104, 101, 97, 100, 32, 110, 111, 115, 99, 114, 105, 112, 116, 32, 115, 99, 114, 105, 112, 116, 32, 115, 116, 121, 108, 101, 32, 116, 101, 109, 112, 108, 97, 116, 101, 32, 116, 105, 116, 108, 101]⟩
def elT3 : ByteArray := ⟨#[112, 114, 101]⟩
def elT4 : ByteArray := ⟨#[110, 111, 98, 114]⟩
def elT5 : ByteArray := ⟨#[98, 114]⟩
def elT6 : ByteArray := ⟨#[119, 98, 114]⟩
def elT (k : Nat) : ByteArray := match k with | 0 => elT0 | 1 => elT1 | 2 => elT2 | 3 => elT3 | 4 => elT4 | 5 => elT5 | 6 => elT6 | _ => ⟨#[]⟩
def elN0 : List ByteArray := [⟨#[97, 100, 100, 114, 101, 115, 115]⟩, ⟨#[97, 114, 116, 105, 99, 108, 101]⟩, ⟨#[97, 115, 105, 100, 101]⟩, ⟨#[98, 108, 111, 99, 107, 113, 117, 111, 116, 101]⟩, ⟨#[98, 111, 100, 121]⟩, ⟨#[99, 101, 110, 116, 101, 114]⟩, ⟨#[100, 100]⟩, ⟨#[100, 101, 116, 97, 105, 108, 115]⟩, ⟨#[100, 105, 97, 108, 111, 103]⟩, ⟨#[100, 105, 118]⟩, ⟨#[100, 108]⟩, ⟨#[100, 116]⟩, ⟨#[102, 105, 101, 108, 100, 115, 101, 116]⟩, ⟨#[102, 105, 103, 99, 97, 112, 116, 105, 111, 110]⟩, ⟨#[102, 105, 103, 117, 114, 101]⟩, ⟨#[102, 111, 111, 116, 101, 114]⟩, ⟨#[102, 111, 114, 109]⟩, ⟨#[104, 49]⟩, ⟨#[104, 50]⟩, ⟨#[104, 51]⟩, ⟨#[104, 52]⟩, ⟨#[104, 53]⟩, ⟨#[104, 54]⟩, ⟨#[104, 101, 97, 100, 101, 114]⟩, ⟨#[104, 114]⟩, ⟨#[104, 116, 109, 108]⟩, ⟨#[108, 105]⟩, ⟨#[109, 97, 105, 110]⟩, ⟨#[110, 97, 118]⟩, ⟨#[111, 108]⟩, ⟨#[112]⟩, ⟨#[112, 114, 101]⟩, ⟨#[115, 101, 99, 116, 105, 111, 110]⟩, ⟨#[115, 117, 109, 109, 97, 114, 121]⟩, ⟨#[116, 97, 98, 108, 101]⟩, ⟨#[116, 98, 111, 100, 121]⟩, ⟨#[116, 100]⟩, ⟨#[116, 102, 111, 111, 116]⟩, ⟨#[116, 104]⟩, ⟨#[116, 104, 101, 97, 100]⟩, ⟨#[116, 114]⟩, ⟨#[117, 108]⟩]
def elN1 : List ByteArray := [⟨#[97, 114, 101, 97]⟩, ⟨#[98, 97, 115, 101]⟩, ⟨#[98, 114]⟩, ⟨#[99, 111, 108]⟩, ⟨#[101, 109, 98, 101, 100]⟩, ⟨#[104, 114]⟩, ⟨#[105, 109, 103]⟩, ⟨#[105, 110, 112, 117, 116]⟩, ⟨#[108, 105, 110, 107]⟩, ⟨#[109, 101, 116, 97]⟩, ⟨#[115, 111, 117, 114, 99, 101]⟩, ⟨#[116, 114, 97, 99, 107]⟩, ⟨#[119, 98, 114]⟩]
def elN2 : List ByteArray := [⟨#[104, 101, 97, 100]⟩, ⟨#[110, 111, 115, 99, 114, 105, 112, 116]⟩, ⟨#[115, 99, 114, 105, 112, 116]⟩, ⟨#[115, 116, 121, 108, 101]⟩, ⟨#[116, 101, 109, 112, 108, 97, 116, 101]⟩, ⟨#[116, 105, 116, 108, 101]⟩]
def elN3 : List ByteArray := [⟨#[112, 114, 101]⟩]
def elN4 : List ByteArray := [⟨#[110, 111, 98, 114]⟩]
def elN5 : List ByteArray := [⟨#[98, 114]⟩]
def elN6 : List ByteArray := [⟨#[119, 98, 114]⟩]
def elN (k : Nat) : List ByteArray := match k with | 0 => elN0 | 1 => elN1 | 2 => elN2 | 3 => elN3 | 4 => elN4 | 5 => elN5 | 6 => elN6 | _ => []
theorem elF0 : Lib.fields elT0.data.toList = elN0.map (fun x => x.data.toList) := by kernel_rfl
theorem elF1 : Lib.fields elT1.data.toList = elN1.map (fun x => x.data.toList) := by kernel_rfl
theorem elF2 : Lib.fields elT2.data.toList = elN2.map (fun x => x.data.toList) := by kernel_rfl
theorem elF3 : Lib.fields elT3.data.toList = elN3.map (fun x => x.data.toList) := by kernel_rfl
theorem elF4 : Lib.fields elT4.data.toList = elN4.map (fun x => x.data.toList) := by kernel_rfl
theorem elF5 : Lib.fields elT5.data.toList = elN5.map (fun x => x.data.toList) := by kernel_rfl
theorem elF6 : Lib.fields elT6.data.toList = elN6.map (fun x => x.data.toList) := by kernel_rfl
def bitI (k : Nat) : Int := (2 : Int) ^ k
def intL (x : Int) : Lit := .int .i64 x
def strL (x : ByteArray) : Lit := .string x.data.toList
def elD : DataW Unit := (((((((DataW.map []).put (intL 1) (.lit (strL elT0))).put (intL 2) (.lit (strL elT1))).put (intL 4) (.lit (strL elT2))).put (intL 8) (.lit (strL elT3))).put (intL 16) (.lit (strL elT4))).put (intL 32) (.lit (strL elT5))).put (intL 64) (.lit (strL elT6))
set_option maxHeartbeats 2000000 in
theorem lists_any (w : World) : Calls Tryz.prog 192 #[] w fun e w' => e = .returned (.map (some w.heap.size)) ∧ w'.ownsMap Tryz.prog 3 (plainElem Tryz.prog 9) w.heap.size 7 elD ∧ Below w.heap.size w w' := by
  have hmm := @run_makeMap Tryz.prog
  have HOWN := hid (World.ownsMap_made (H := Unit) w Tryz.prog 3 (plainElem Tryz.prog 9))
  have HB := hid ((Below.refl w.heap.size w).alloc (Nat.le_refl _) (.map #[] 0))
  go_enter Tryz.func192, Tryz.ntmps192
  go_wp2_with ((refine wpList_insert_own _ rfl _ _ _ 276 rfl 3 9 (int_keyed Tryz.underlying3) Tryz.underlying276 (plainElem Tryz.prog 9) w.heap.size _ _ rfl HOWN.out (by unfold maxLen; omega) _ _ _ rfl rfl (keyOf_int_mk Tryz.underlying3 (by decide)) _ [] (plainElem_string Tryz.underlying9 (by decide)) ?_); intro w1 hown1 hgrow1; have HOWN := hid hown1; have HB := hid (HB.out.grown hgrow1 HB.out.size (fun k e => by cases e; exact Nat.le_refl _)); clear hown1 hgrow1)
  have hfin : ∀ (W : World) D, D = elD → W.ownsMap Tryz.prog 3 (plainElem Tryz.prog 9) w.heap.size 7 D → W.ownsMap Tryz.prog 3 (plainElem Tryz.prog 9) w.heap.size 7 elD := by
    rintro W D rfl h
    exact h
  go_ret
  exact ⟨rfl, hfin _ _ (by kernel_rfl) HOWN.out, HB.out⟩
end Go.Proofs.YtpnbkecchfhimaaGreatDoor

/- out of ElB -/
namespace Go.Proofs.YtpnbkecchfhimaaGreatDoor
open Go.RowKit Go.Maps
open Go.Lib (hid)
set_option linter.unusedVariables false
set_option maxRecDepth 100000

def b2 (b : Bool) (k : Int) : Int := if b = true then k else 0
def v7 (a b c d e f g : Bool) : Int := b2 a 1 + b2 b 2 + b2 c 4 + b2 d 8 + b2 e 16 + b2 f 32 + b2 g 64
def valOf (b : Nat → Bool) : Int := v7 (b 0) (b 1) (b 2) (b 3) (b 4) (b 5) (b 6)
theorem or0 : ∀ a b c d e f g : Bool, bits .or .i64 (v7 a b c d e f g) 1 = v7 true b c d e f g := by decide +kernel
theorem or1 : ∀ a b c d e f g : Bool, bits .or .i64 (v7 a b c d e f g) 2 = v7 a true c d e f g := by decide +kernel
theorem or2 : ∀ a b c d e f g : Bool, bits .or .i64 (v7 a b c d e f g) 4 = v7 a b true d e f g := by decide +kernel
theorem or3 : ∀ a b c d e f g : Bool, bits .or .i64 (v7 a b c d e f g) 8 = v7 a b c true e f g := by decide +kernel
theorem or4 : ∀ a b c d e f g : Bool, bits .or .i64 (v7 a b c d e f g) 16 = v7 a b c d true f g := by decide +kernel
theorem or5 : ∀ a b c d e f g : Bool, bits .or .i64 (v7 a b c d e f g) 32 = v7 a b c d e true g := by decide +kernel
theorem or6 : ∀ a b c d e f g : Bool, bits .or .i64 (v7 a b c d e f g) 64 = v7 a b c d e f true := by decide +kernel
theorem or_bit (b : Nat → Bool) (k : Nat) (hk : k < 7) : bits .or .i64 (valOf b) (bitI k) = valOf fun i => b i || i == k := by
  rcases (by omega : k = 0 ∨ k = 1 ∨ k = 2 ∨ k = 3 ∨ k = 4 ∨ k = 5 ∨ k = 6) with rfl | rfl | rfl | rfl | rfl | rfl | rfl
  · show bits .or .i64 (v7 _ _ _ _ _ _ _) 1 = _
    rw [or0]; simp [valOf]
  · show bits .or .i64 (v7 _ _ _ _ _ _ _) 2 = _
    rw [or1]; simp [valOf]
  · show bits .or .i64 (v7 _ _ _ _ _ _ _) 4 = _
    rw [or2]; simp [valOf]
  · show bits .or .i64 (v7 _ _ _ _ _ _ _) 8 = _
    rw [or3]; simp [valOf]
  · show bits .or .i64 (v7 _ _ _ _ _ _ _) 16 = _
    rw [or4]; simp [valOf]
  · show bits .or .i64 (v7 _ _ _ _ _ _ _) 32 = _
    rw [or5]; simp [valOf]
  · show bits .or .i64 (v7 _ _ _ _ _ _ _) 64 = _
    rw [or6]; simp [valOf]
theorem valOf_bd (b : Nat → Bool) : 0 ≤ valOf b ∧ valOf b ≤ 127 := by
  unfold valOf v7 b2
  constructor
  · repeat' split
    all_goals omega
  · repeat' split
    all_goals omega
theorem valOf_congr {a b : Nat → Bool} (h : ∀ i, i < 7 → a i = b i) : valOf a = valOf b := by
  unfold valOf
  rw [h 0 (by decide), h 1 (by decide), h 2 (by decide), h 3 (by decide), h 4 (by decide), h 5 (by decide), h 6 (by decide)]
/-- What a name is, of the lists that have come, and of the first names of one that is coming. -/
def memB (x : ByteArray) (l : List ByteArray) : Bool := l.any fun y => decide (y = x)
theorem memB_next {x : ByteArray} {l : List ByteArray} {j : Nat} (hj : j < l.length) : memB x (l.take (j + 1)) = (memB x (l.take j) || decide (l[j] = x)) := by
  unfold memB
  rw [List.take_add_one, List.getElem?_eq_getElem hj, List.any_append]
  simp
def inN (k : Nat) (x : ByteArray) : Bool := memB x (elN k)
def bitsJ (bp : Nat → Bool) (k j : Nat) (x : ByteArray) (i : Nat) : Bool := (bp i && inN i x) || (i == k && memB x ((elN k).take j))
def elV (x : ByteArray) : Int := valOf fun i => inN i x
theorem bitsJ_zero (bp : Nat → Bool) (k : Nat) (x : ByteArray) : valOf (bitsJ bp k 0 x) = valOf fun i => bp i && inN i x := valOf_congr fun i _ => by
  unfold bitsJ
  rw [List.take_zero]
  simp [memB]
theorem bitsJ_end {bp : Nat → Bool} {k : Nat} (x : ByteArray) : valOf (bitsJ bp k (elN k).length x) = valOf fun i => (bp i || i == k) && inN i x := valOf_congr fun i _ => by
  unfold bitsJ inN
  rw [List.take_length]
  by_cases h : i = k
  · subst h
    cases bp i <;> simp
  · have : (i == k) = false := by simpa using h
    rw [this]
    simp
theorem bitsJ_hit {bp : Nat → Bool} {k j : Nat} (hk : k < 7) (hj : j < (elN k).length) : bits .or .i64 (valOf (bitsJ bp k j (elN k)[j])) (bitI k) = valOf (bitsJ bp k (j + 1) (elN k)[j]) := by
  rw [or_bit _ k hk]
  refine valOf_congr fun i _ => ?_
  unfold bitsJ
  by_cases h : i = k
  · subst h
    rw [memB_next hj, decide_eq_true rfl]
    simp
  · have : (i == k) = false := by simpa using h
    rw [this]
    simp
theorem bitsJ_miss {bp : Nat → Bool} {k j : Nat} (hj : j < (elN k).length) {x : ByteArray} (hx : x ≠ (elN k)[j]) : bitsJ bp k (j + 1) x = bitsJ bp k j x := by
  funext i
  unfold bitsJ
  rw [memB_next hj, decide_eq_false (fun e => hx e.symm), Bool.or_false]
theorem strL_inj {x y : ByteArray} (h : strL x = strL y) : x = y := by
  injection h with h
  exact ByteArray.ext (Array.toList_inj.1 h)
theorem elD_is : elD = .map [(intL 1, .lit (strL elT0)), (intL 2, .lit (strL elT1)), (intL 4, .lit (strL elT2)), (intL 8, .lit (strL elT3)), (intL 16, .lit (strL elT4)), (intL 32, .lit (strL elT5)), (intL 64, .lit (strL elT6))] := by kernel_rfl
theorem elD_size : Maps.size elD = 7 := by rw [elD_is]; rfl
theorem sameKey_eq {a b : Lit} (h : a.sameKey b = true) : a = b := by
  by_cases e : a = b
  · exact e
  · rw [sameKey_ne e] at h
    cases h
theorem elD_has {kl : Lit} (h : Maps.has elD kl = true) : ∃ k, k < 7 ∧ kl = intL (bitI k) := by
  rw [elD_is, has_eq] at h
  obtain ⟨p, hp, hs⟩ := List.any_eq_true.1 h
  have he := sameKey_eq hs
  simp only [List.mem_cons, List.not_mem_nil, or_false] at hp
  rcases hp with rfl | rfl | rfl | rfl | rfl | rfl | rfl
  · exact ⟨0, by decide, he.symm⟩
  · exact ⟨1, by decide, he.symm⟩
  · exact ⟨2, by decide, he.symm⟩
  · exact ⟨3, by decide, he.symm⟩
  · exact ⟨4, by decide, he.symm⟩
  · exact ⟨5, by decide, he.symm⟩
  · exact ⟨6, by decide, he.symm⟩
theorem elD_has_bit : ∀ k : Fin 7, Maps.has elD (intL (bitI k.val)) = true := by
  rw [elD_is]
  intro k
  match k with
  | ⟨0, _⟩ => rfl
  | ⟨1, _⟩ => rfl
  | ⟨2, _⟩ => rfl
  | ⟨3, _⟩ => rfl
  | ⟨4, _⟩ => rfl
  | ⟨5, _⟩ => rfl
  | ⟨6, _⟩ => rfl
theorem elD_at (k : Fin 7) : elD.atKey (intL (bitI k.val)) (.lit (strL ⟨#[]⟩)) = .lit (strL (elT k.val)) := by
  match k with
  | ⟨0, _⟩ => show elD.atKey (intL (bitI 0)) (.lit (strL ⟨#[]⟩)) = .lit (strL elT0); kernel_rfl
  | ⟨1, _⟩ => show elD.atKey (intL (bitI 1)) (.lit (strL ⟨#[]⟩)) = .lit (strL elT1); kernel_rfl
  | ⟨2, _⟩ => show elD.atKey (intL (bitI 2)) (.lit (strL ⟨#[]⟩)) = .lit (strL elT2); kernel_rfl
  | ⟨3, _⟩ => show elD.atKey (intL (bitI 3)) (.lit (strL ⟨#[]⟩)) = .lit (strL elT3); kernel_rfl
  | ⟨4, _⟩ => show elD.atKey (intL (bitI 4)) (.lit (strL ⟨#[]⟩)) = .lit (strL elT4); kernel_rfl
  | ⟨5, _⟩ => show elD.atKey (intL (bitI 5)) (.lit (strL ⟨#[]⟩)) = .lit (strL elT5); kernel_rfl
  | ⟨6, _⟩ => show elD.atKey (intL (bitI 6)) (.lit (strL ⟨#[]⟩)) = .lit (strL elT6); kernel_rfl
theorem elT_fields (k : Fin 7) : Lib.fields (elT k.val).data.toList = (elN k.val).map (fun x => x.data.toList) := by
  match k with
  | ⟨0, _⟩ => exact elF0
  | ⟨1, _⟩ => exact elF1
  | ⟨2, _⟩ => exact elF2
  | ⟨3, _⟩ => exact elF3
  | ⟨4, _⟩ => exact elF4
  | ⟨5, _⟩ => exact elF5
  | ⟨6, _⟩ => exact elF6
theorem elT_ascii (k : Fin 7) : ∀ b ∈ (elT k.val).data.toList, b.toNat < 128 := by
  have : ∀ k : Fin 7, ((elT k.val).data.toList.all fun b => decide (b.toNat < 128)) = true := by decide +kernel
  intro b hb
  exact of_decide_eq_true (List.all_eq_true.1 (this k) b hb)
theorem elT_size (k : Fin 7) : (elT k.val).size ≤ 1000 := by
  have : ∀ k : Fin 7, decide ((elT k.val).size ≤ 1000) = true := by decide +kernel
  exact of_decide_eq_true (this k)
theorem elN_len (k : Fin 7) : (elN k.val).length ≤ 50 := by
  have : ∀ k : Fin 7, decide ((elN k.val).length ≤ 50) = true := by decide +kernel
  exact of_decide_eq_true (this k)
theorem elN_size (k : Nat) (x : ByteArray) (h : x ∈ elN k) : x.size ≤ 20 := by
  by_cases hk : k < 7
  · have : ∀ k : Fin 7, ((elN k.val).all fun x => decide (x.size ≤ 20)) = true := by decide +kernel
    exact of_decide_eq_true (List.all_eq_true.1 (this ⟨k, hk⟩) x h)
  · unfold elN at h
    split at h
    all_goals first | (exfalso; omega) | cases h
theorem bitI_inj {j k : Nat} (hj : j < 7) (hk : k < 7) (h : bitI j = bitI k) : j = k := by
  have : ∀ j k : Fin 7, bitI j.val = bitI k.val → j = k := by decide
  have := this ⟨j, hj⟩ ⟨k, hk⟩ h
  exact congrArg Fin.val this
theorem bitI_bd (k : Fin 7) : 1 ≤ bitI k.val ∧ bitI k.val ≤ 64 := by
  have : ∀ k : Fin 7, 1 ≤ bitI k.val ∧ bitI k.val ≤ 64 := by decide
  exact this k
end Go.Proofs.YtpnbkecchfhimaaGreatDoor

/- out of ElSh -/
namespace Go.Proofs
open Go.Shelf
def Tryz.laysEl157_ren : Go.Shelf.Ren := ⟨fun | 157 => 193 | 229 => 218 | 199 => 219 | 261 => 241 | 311 => 254 | 312 => 255 | n => n, fun | 9 => 9 | 31 => 95 | 3 => 3 | 5 => 5 | 4 => 4 | 119 => 244 | 0 => 0 | 40 => 275 | 152 => 333 | 21 => 21 | 154 => 335 | 51 => 135 | 141 => 337 | 196 => 354 | 193 => 351 | 198 => 357 | 49 => 355 | 194 => 352 | 201 => 360 | 226 => 365 | 46 => 129 | 227 => 366 | n => n, fun | 0 => 3 | 6 => 6 | n => n⟩
theorem Tryz.laysEl157 : Go.Proofs.LaysM.n157 Tryz.prog Tryz.laysEl157_ren := {
  mixed := by kernel_rfl
  f157 := Tryz.func193.trans (congrArg some (by kernel_rfl))
  f199 := Tryz.func219.trans (congrArg some (by kernel_rfl))
  f229 := Tryz.func218.trans (congrArg some (by kernel_rfl))
  f261 := Tryz.func241.trans (congrArg some (by kernel_rfl))
  f311 := Tryz.func254.trans (congrArg some (by kernel_rfl))
  f312 := Tryz.func255.trans (congrArg some (by kernel_rfl))
  t0 := Tryz.underlying0
  a0 := Tryz.isAgg0
  z0 := Tryz.sizeOf0
  v0 := Tryz.zeroValue0
  t3 := Tryz.underlying3
  a3 := Tryz.isAgg3
  z3 := Tryz.sizeOf3
  v3 := Tryz.zeroValue3
  t4 := Tryz.underlying4
  a4 := Tryz.isAgg4
  z4 := Tryz.sizeOf4
  v4 := Tryz.zeroValue4
  t5 := Tryz.underlying5
  a5 := Tryz.isAgg5
  z5 := Tryz.sizeOf5
  v5 := Tryz.zeroValue5
  t9 := Tryz.underlying9
  a9 := Tryz.isAgg9
  z9 := Tryz.sizeOf9
  v9 := Tryz.zeroValue9
  t21 := Tryz.underlying21
  a21 := Tryz.isAgg21
  z21 := Tryz.sizeOf21
  v21 := Tryz.zeroValue21
  t31 := Tryz.underlying95
  a31 := Tryz.isAgg95
  z31 := Tryz.sizeOf95
  v31 := Tryz.zeroValue95
  t40 := Tryz.underlying275
  a40 := Tryz.isAgg275
  z40 := Tryz.sizeOf275
  v40 := Tryz.zeroValue275
  t46 := Tryz.underlying129
  a46 := Tryz.isAgg129
  z46 := Tryz.sizeOf129
  v46 := Tryz.zeroValue129
  t49 := Tryz.underlying355
  a49 := Tryz.isAgg355
  z49 := Tryz.sizeOf355
  v49 := Tryz.zeroValue355
  t51 := Tryz.underlying135
  a51 := Tryz.isAgg135
  z51 := Tryz.sizeOf135
  v51 := Tryz.zeroValue135
  t119 := Tryz.underlying244
  a119 := Tryz.isAgg244
  z119 := Tryz.sizeOf244
  t141 := Tryz.underlying337
  a141 := Tryz.isAgg337
  z141 := Tryz.sizeOf337
  v141 := Tryz.zeroValue337
  t152 := Tryz.underlying333
  a152 := Tryz.isAgg333
  z152 := Tryz.sizeOf333
  v152 := Tryz.zeroValue333
  t154 := Tryz.underlying335
  a154 := Tryz.isAgg335
  z154 := Tryz.sizeOf335
  v154 := Tryz.zeroValue335
  t193 := Tryz.underlying351
  a193 := Tryz.isAgg351
  z193 := Tryz.sizeOf351
  v193 := Tryz.zeroValue351
  t194 := Tryz.underlying352
  a194 := Tryz.isAgg352
  z194 := Tryz.sizeOf352
  v194 := Tryz.zeroValue352
  t196 := Tryz.underlying354
  a196 := Tryz.isAgg354
  z196 := Tryz.sizeOf354
  v196 := Tryz.zeroValue354
  t198 := Tryz.underlying357
  a198 := Tryz.isAgg357
  z198 := Tryz.sizeOf357
  v198 := Tryz.zeroValue357
  t201 := Tryz.underlying360
  a201 := Tryz.isAgg360
  z201 := Tryz.sizeOf360
  v201 := Tryz.zeroValue360
  t226 := Tryz.underlying365
  a226 := Tryz.isAgg365
  z226 := Tryz.sizeOf365
  v226 := Tryz.zeroValue365
  t227 := Tryz.underlying366
  a227 := Tryz.isAgg366
  z227 := Tryz.sizeOf366
  v227 := Tryz.zeroValue366
  g0 := by kernel_rfl
  g6 := by kernel_rfl
  i0 := by kernel_rfl
  i3 := by kernel_rfl
  i4 := by kernel_rfl
  i5 := by kernel_rfl
  i9 := by kernel_rfl
  i21 := by kernel_rfl
  i31 := by kernel_rfl
  i40 := by kernel_rfl
  i46 := by kernel_rfl
  i49 := by kernel_rfl
  i51 := by kernel_rfl
  i141 := by kernel_rfl
  i152 := by kernel_rfl
  i154 := by kernel_rfl
  i193 := by kernel_rfl
  i194 := by kernel_rfl
  i196 := by kernel_rfl
  i198 := by kernel_rfl
  i201 := by kernel_rfl
  i226 := by kernel_rfl
  i227 := by kernel_rfl
  m0 := by kernel_rfl
  m6 := by kernel_rfl }
end Go.Proofs

/- out of ElC -/
namespace Go.Proofs.YtpnbkecchfhimaaGreatDoor
open Go.RowKit Go.Maps
open Go.Lib (hid)
set_option linter.unusedVariables false
set_option maxRecDepth 100000

def TabSp (w : World) : Prop := Lib.TabIs Tryz.prog w "strings.asciiSpace" .u8 Lib.asciiSpaceTab
theorem TabSp.below {w w' : World} {B : Nat} (h : TabSp w) (hb : Below B w w') (hB : w.heap.size ≤ B) : TabSp w' := by
  unfold TabSp Lib.TabIs World.var? at *
  cases hg : Tryz.prog.globalNamed "strings.asciiSpace" with
  | none => simp [hg] at h
  | some g =>
    simp only [hg, Option.bind_some] at h ⊢
    have hlt : g < w.heap.size := by
      rcases Nat.lt_or_ge g w.heap.size with h' | h'
      · exact h'
      · rw [Array.getElem?_eq_none h'] at h; simp at h
    rw [hb.block g (by omega)]
    exact h
def elRow (k : Nat) : Array Value := ((elN k).map Value.string).toArray
theorem elRow_at (k j : Nat) (h : j < (elN k).length) : (elRow k)[j]? = some (.string (elN k)[j]) := by
  unfold elRow
  simp [h]
theorem fields_any (k : Nat) (hk : k < 7) (w : World) (ht : TabSp w) : Calls Tryz.prog 193 #[.string (elT k)] w fun e w' => e = .returned (.slice (some ⟨w.heap.size, 0, none⟩) (elN k).length (elN k).length) ∧ w' = w.alloc (.cells (elRow k) 9) := by
  have hf := elT_fields ⟨k, hk⟩
  have hz := elT_size ⟨k, hk⟩
  have ha := elT_ascii ⟨k, hk⟩
  simp only at hf hz ha
  have := Any.strings_Fields_laid (P := Tryz.prog) Tryz.laysEl157 (elT k) w (by omega) (fun j b hj => ha b (List.mem_of_getElem? hj)) ht
  rw [hf] at this
  refine this.mono fun e w' h => ⟨?_, ?_⟩
  · rw [h.1]
    simp
  · rw [h.2]
    unfold elRow
    rw [List.map_map]
    rfl
theorem key_str (x : ByteArray) (hx : x.size ≤ maxLen) : keyOf Tryz.prog 9 (.string x) = some (strL x) := by
  rw [keyOf_string Tryz.underlying9]
  simp [mapKey, Tryz.underlying9, strL, hx]
/-- What the map holds, of the lists that have come. -/
def ElSt (D : DataW Unit) (bp : Nat → Bool) : Prop := ∀ x : ByteArray, D.atKey (strL x) (.lit (.int .i64 0)) = .lit (.int .i64 (valOf fun i => bp i && inN i x))
def ElIn (D : DataW Unit) (bp : Nat → Bool) (k j : Nat) : Prop := ∀ x : ByteArray, D.atKey (strL x) (.lit (.int .i64 0)) = .lit (.int .i64 (valOf (bitsJ bp k j x)))
def LeftOf (left : Lit → Bool) (bp : Nat → Bool) : Prop := (∀ kl, left kl = true → ∃ k, k < 7 ∧ kl = intL (bitI k) ∧ bp k = false) ∧ (∀ k, k < 7 → bp k = false → left (intL (bitI k)) = true)
theorem LeftOf.start : LeftOf (Maps.has elD) (fun _ => false) := ⟨fun kl h => by
  obtain ⟨k, hk, e⟩ := elD_has h
  exact ⟨k, hk, e, rfl⟩, fun k hk _ => elD_has_bit ⟨k, hk⟩⟩
theorem intL_inj {x y : Int} (h : intL x = intL y) : x = y := by injection h
theorem LeftOf.next {left : Lit → Bool} {bp : Nat → Bool} {k : Nat} (hk : k < 7) (h : LeftOf left bp) : LeftOf (fun z => left z && !z.sameKey (intL (bitI k))) (fun i => bp i || i == k) := by
  constructor
  · intro kl hl
    rw [Bool.and_eq_true] at hl
    obtain ⟨i, hi, e, hb⟩ := h.1 kl hl.1
    refine ⟨i, hi, e, ?_⟩
    have hik : i ≠ k := fun e2 => by
      subst e2
      have h2 := hl.2
      rw [e] at h2
      have : (intL (bitI i)).sameKey (intL (bitI i)) = true := by unfold intL; simp [Lit.sameKey]
      rw [this] at h2
      cases h2
    show (bp i || i == k) = false
    rw [hb]
    simpa using hik
  · intro i hi hb
    simp only [Bool.or_eq_false_iff] at hb
    have hik : i ≠ k := by simpa using hb.2
    have hne : intL (bitI i) ≠ intL (bitI k) := fun e => hik (bitI_inj hi hk (intL_inj e))
    rw [Bool.and_eq_true, h.2 i hi hb.1, sameKey_ne hne]
    exact ⟨rfl, rfl⟩
set_option maxHeartbeats 4000000 in
theorem names_any (w : World) (ht : TabSp w) : Calls Tryz.prog 146 #[] w fun e w' => ∃ D n, e = .returned (.map (some w.heap.size)) ∧ w'.ownsMap Tryz.prog 9 (plainElem Tryz.prog 3) w.heap.size n D ∧ ElSt D (fun _ => true) ∧ Below w.heap.size w w' := by
  have hmm := @run_makeMap Tryz.prog
  have HOWN := hid (World.ownsMap_made (H := Unit) w Tryz.prog 9 (plainElem Tryz.prog 3))
  have HB1 := hid ((Below.refl w.heap.size w).alloc (Nat.le_refl _) (.map #[] 0))
  have HLI := hid (fun W => lists_any W)
  have HFI := hid (fun (k : Nat) (hk : k < 7) (W : World) (h : Below w.heap.size w W) => fields_any k hk W (ht.below h (Nat.le_refl _)))
  have hs1 : (w.alloc (.map #[] 0)).heap.size = w.heap.size + 1 := by simp
  clear ht
  go_enter Tryz.func146, Tryz.ntmps146
  go_wp2_with fail
  generalize w.alloc (.map #[] 0) = w1 at *
  refine (HLI.out _).mono ?_
  rintro e w2 ⟨rfl, hl2, hb2⟩
  have HB2 := hid (HB1.out.trans (hb2.mono (by omega)))
  have HM2 := hid (HOWN.out.kept (grown_of_below hb2 none) (by simp))
  rw [hs1] at hl2
  have HL2 := hid hl2
  have hs2 := hb2.size
  have hlt2 := hl2.lt
  clear hb2 hl2 HOWN HLI
  go_wp2_with (first | (at_range; (refine wpList_range_own _ rfl _ 276 rfl 3 9 (int_keyed Tryz.underlying3) Tryz.underlying276 (plainElem Tryz.prog 9) (w.heap.size + 1) 7 elD rfl HL2.out ?_); intro w3 hrg3 hg3 hs3) | go_in)
  go_frame
  have HM3 := hid (HM2.out.kept hg3 (by simp))
  have HB3 := hid (HB2.out.grown hg3 HB2.out.size (fun k e => by cases e))
  have hMr : w.heap.size ≠ w2.heap.size := by omega
  have hLr : w.heap.size + 1 ≠ w2.heap.size := by omega
  have hrB : w.heap.size ≤ w2.heap.size := by omega
  rw [elD_size] at hrg3
  have HR3 := hid hrg3
  clear hrg3 hg3 hs3 HM2 HL2
  generalize w2.heap.size = r at *
  go_loopw [2] (fun _ wr => ∃ (left : Lit → Bool) (cnt nD : Nat) (bp : Nat → Bool) (D : DataW Unit), Hid (wr.ranges Tryz.prog 3 (plainElem Tryz.prog 9) (w.heap.size + 1) r 7 elD left cnt) ∧ Hid (LeftOf left bp) ∧ Hid (wr.ownsMap Tryz.prog 9 (plainElem Tryz.prog 3) w.heap.size nD D) ∧ nD + 50 * cnt ≤ 350 ∧ Hid (ElSt D bp) ∧ Hid (Below w.heap.size w wr))
    (fun _ wr => wr.rangeLeft (w.heap.size + 1) r)
  case atStart => exact ⟨Maps.has elD, 7, 0, fun _ => false, .map [], HR3.out, LeftOf.start, HM3.out, by omega, fun x => rfl, HB3.out⟩
  case round =>
    obtain ⟨left, cnt, nD, bp, D, HR, HLF, HM, hnD, HST, HB⟩ := hrel
    go_wp2_with (first | (at_next; (refine wpList_next_ranges_is _ rfl _ rfl 3 9 .i64 (int_keyed Tryz.underlying3) Tryz.underlying3 Tryz.underlying9 (w.heap.size + 1) r 7 elD left cnt rfl HR.out ?_ ?_)) | go_in)
    · intro hc0 hl0
      have hbp : ∀ i, i < 7 → bp i = true := fun i hi => by
        cases h : bp i with
        | true => rfl
        | false =>
          have := HLF.out.2 i hi h
          rw [hl0] at this
          cases this
      have HFIN := hid (show ElSt D (fun _ => true) from fun x => by
        rw [HST.out x]
        congr 2
        exact valOf_congr fun i hi => by show (bp i && inN i x) = (true && inN i x); rw [hbp i hi])
      clear hbp hl0 hc0
      go_wp2_with fail
      go_ret
      exact ⟨D, nD, rfl, HM.out, HFIN.out, HB.out⟩
    · intro x c w4 cnt4 hwx hwc hlx hat hrg4 hlt4 hg4 hs4 hen
      obtain ⟨k, hk, ek, hbk⟩ := HLF.out.1 _ hlx
      obtain rfl : x = bitI k := intL_inj ek
      have hc := hat (.lit (strL ⟨#[]⟩))
      have hc2 := elD_at ⟨k, hk⟩
      simp only at hc2
      have hcc : elT k = c := by
        have h3 := hc2.symm.trans hc
        injection h3 with h3
        exact strL_inj h3
      subst hcc
      have HLE := hid HR.out.left_eq
      have HLF4 := hid (LeftOf.next hk HLF.out)
      have hM4 := HM.out.kept hg4 (by simpa using hMr)
      have hb4 := HB.out.grown hg4 HB.out.size (fun j e => by injection e with e; subst e; exact hrB)
      have HF := hid (HFI.out k hk w4 hb4)
      have HM4 := hid hM4
      have HB4 := hid hb4
      have HR4 := hid hrg4
      have hln := elN_len ⟨k, hk⟩
      simp only at hln
      have HBK := hid hbk
      have HEN := hid hen
      clear hwx hwc hlx hat hc hc2 ek hM4 hb4 hrg4 hbk HM HR HLF hg4
      go_wp2_with fail
      refine HF.out.mono ?_
      rintro e w5 ⟨rfl, hw5⟩
      have hq5 : Blk w5 w4.heap.size 9 (elRow k) := by rw [hw5]; exact Blk.new _ _ _
      have hr5 : w5.ranges Tryz.prog 3 (plainElem Tryz.prog 9) (w.heap.size + 1) r 7 elD (fun z => left z && !z.sameKey (.int .i64 (bitI k))) cnt4 := by rw [hw5]; exact HR4.out.alloc _
      have hm5 : w5.ownsMap Tryz.prog 9 (plainElem Tryz.prog 3) w.heap.size nD D := by rw [hw5]; exact HM4.out.alloc _
      have hb5 : Below w.heap.size w w5 := by rw [hw5]; exact HB4.out.alloc HB4.out.size _
      have hlt5 := HM4.out.lt
      have HQ5 := hid hq5
      have HR5 := hid hr5
      have HM5 := hid hm5
      have HB5 := hid hb5
      clear hw5 hq5 hr5 hm5 hb5 HR4 HM4 HB4 hs4
      generalize w4.heap.size = q at *
      obtain ⟨ln, hlne⟩ : ∃ ln, ln = (elN k).length := ⟨_, rfl⟩
      have HLN := hid hlne
      rw [← hlne] at hln ⊢
      clear hlne
      go_wp2_with fail
      go_loopg [17] ln (fun kx s17 wr => ∃ (j nE : Nat) (E : DataW Unit), s17 = .int .i64 j ∧ j ≤ ln ∧ ln - j ≤ kx ∧ nE ≤ nD + j ∧ Hid (wr.ranges Tryz.prog 3 (plainElem Tryz.prog 9) (w.heap.size + 1) r 7 elD (fun z => left z && !z.sameKey (.int .i64 (bitI k))) cnt4) ∧ Hid (wr.ownsMap Tryz.prog 9 (plainElem Tryz.prog 3) w.heap.size nE E) ∧ Hid (ElIn E bp k j) ∧ Hid (Blk wr q 9 (elRow k)) ∧ Hid (Below w.heap.size w wr))
      case atStart => exact ⟨0, nD, D, rfl, Nat.zero_le _, Nat.le_refl _, Nat.le_refl _, HR5.out, HM5.out, fun x => by rw [HST.out x, bitsJ_zero], HQ5.out, HB5.out⟩
      case round =>
        obtain ⟨j, nE, E, rfl, hj, hg, hnE, HR6, HM6, HIN, HQ6, HB6⟩ := hrel
        by_cases hlt : j < ln
        · have hlt' : (j : Int) < (ln : Int) := by omega
          have hjl : j < (elN k).length := by rw [← HLN.out]; exact hlt
          have c0 := (HQ6.out.cell j).trans (elRow_at k j hjl)
          have hnm := elN_size k (elN k)[j] (List.getElem_mem hjl)
          have hin := HIN.out (elN k)[j]
          have hor := bitsJ_hit (bp := bp) hk hjl
          have HNX := hid (fun x (hx : x ≠ (elN k)[j]) => bitsJ_miss (bp := bp) hjl hx)
          have HKEY := hid (key_str (elN k)[j] (by unfold maxLen; omega))
          have hvb := valOf_bd (bitsJ bp k (j + 1) (elN k)[j])
          generalize (elN k)[j] = nm at *
          have HNEW := hid (show ElIn (E.put (strL nm) (.lit (.int .i64 (valOf (bitsJ bp k (j + 1) nm))))) bp k (j + 1) from fun x => by
            by_cases hx : x = nm
            · subst hx
              rw [atKey_put_same (HM6.out.isMap) (show WideAt.IsKeyLit (strL x) from trivial)]
            · rw [atKey_put_other (fun e => hx (strL_inj e)), HIN.out x, HNX.out x hx])
          generalize valOf (bitsJ bp k (j + 1) nm) = V1 at *
          generalize valOf (bitsJ bp k j nm) = V0 at *
          have hwf : (Lit.int .i64 V1).wf = true := by
            simp only [Lit.wf, IntKind.min, IntKind.max, IntKind.signed, IntKind.bits, Bool.and_eq_true]
            simp
            omega
          have hz0 : ∀ W : World, (zeroValue 3).run Tryz.prog W = .ok (.int .i64 0) W := fun W => Tryz.zeroValue3 W
          go_wp2_with (first
            | (at_lookup; (refine wpList_lookup_own_int _ rfl _ _ 224 rfl 9 3 .i64 (string_keyed Tryz.underlying9) Tryz.underlying224 Tryz.underlying3 (hz0 _) w.heap.size nE E rfl HM6.out _ (strL nm) rfl HKEY.out ?_); intro c hatc hwc; obtain rfl : c = V0 := (by have h3 := hatc.symm.trans hin; injection h3 with h3; injection h3))
            | (at_mapUpdate; (refine wpList_mapUpdate_own _ rfl _ _ _ 224 rfl 9 3 (string_keyed Tryz.underlying9) Tryz.underlying224 (plainElem Tryz.prog 3) w.heap.size nE E rfl HM6.out (by unfold maxLen; omega) _ _ (strL nm) rfl rfl HKEY.out _ [] (plainElem_int Tryz.underlying3 hwf) ?_); intro w7 hown7 hgrow7)
            | go_in)
          have HR7 := hid (HR6.out.kept hgrow7 (by simp) (by simpa using fun e => hMr e.symm))
          have HQ7 := hid (HQ6.out.grown hgrow7 (by simpa using fun e => by omega))
          have HB7 := hid (HB6.out.grown hgrow7 HB6.out.size (fun k e => by cases e; exact Nat.le_refl _))
          have HM7 := hid hown7
          go_roundg (ln - (j + 1))
          case measure => omega
          case rel => exact ⟨j + 1, nE + 1, _, by go_num, by omega, Nat.le_refl _, by omega, HR7.out, HM7.out, HNEW.out, HQ7.out, HB7.out⟩
        · have hlt' : ¬ (j : Int) < (ln : Int) := by omega
          have hjn : j = (elN k).length := by rw [← HLN.out]; omega
          have HEND := hid (show ElSt E (fun i => bp i || i == k) from fun x => by rw [HIN.out x, hjn, bitsJ_end])
          clear hlt hjn
          go_wp2_with fail
          go_roundw
          case rel => exact ⟨_, cnt4, nE, fun i => bp i || i == k, E, HR6.out, HLF4.out, HM6.out, by omega, HEND.out, HB6.out⟩
          case measure => rw [HR6.out.left_eq, HLE.out]; omega
theorem elOf_any (x : ByteArray) (hx : x.size ≤ maxLen) (w : World) (ht : TabSp w) : Calls Tryz.prog 101 #[.string x] w fun e w' => e = .returned (.int .i64 (elV x)) ∧ Below w.heap.size w w' := by
  have HN := hid (names_any w ht)
  have HKEY := hid (key_str x hx)
  have hz0 : ∀ W : World, (zeroValue 3).run Tryz.prog W = .ok (.int .i64 0) W := fun W => Tryz.zeroValue3 W
  clear ht
  go_enter Tryz.func101, Tryz.ntmps101
  go_wp2_with fail
  refine HN.out.mono ?_
  rintro e w2 ⟨D, n, rfl, hm2, hst, hb2⟩
  have HM2 := hid hm2
  have HB2 := hid hb2
  have hin := hst x
  obtain ⟨V, hV⟩ : ∃ V, V = valOf (fun i => true && inN i x) := ⟨_, rfl⟩
  rw [← hV] at hin
  have HVE := hid (show V = elV x from hV)
  clear hV
  clear hm2 hb2 hst
  go_wp2_with (first
    | (at_lookup; (refine wpList_lookup_own_int _ rfl _ _ 224 rfl 9 3 .i64 (string_keyed Tryz.underlying9) Tryz.underlying224 Tryz.underlying3 (hz0 _) w.heap.size n D rfl HM2.out _ (strL x) rfl HKEY.out ?_); intro c hatc hwc; obtain rfl : c = V := (by have h3 := hatc.symm.trans hin; injection h3 with h3; injection h3))
    | go_in)
  go_ret
  exact ⟨by rw [← HVE.out]; rfl, HB2.out⟩
end Go.Proofs.YtpnbkecchfhimaaGreatDoor
