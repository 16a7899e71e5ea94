/- Chapter 18: the reader's rest. -/
import Derived.WalkKit
import Derived.BigQuiet
import Derived.Deep.LoopGhost
import Derived.Test.YtpkbmgpbagdalaaTagA
namespace Go.Proofs.Ytpkbmgpbagdalaa
open Go.RowKit
open Go.Lib (hid)
set_option linter.unusedVariables false

/-- Does a text end with a slash? -/
def endSl (x : ByteArray) : Bool := decide (1 ≤ x.size) && ((x.extract (x.size - 1) x.size).toList == (⟨#[47]⟩ : ByteArray).toList)

theorem lsuffix_any (s : ByteArray) (w : World) (hs : s.size ≤ 9223372036854775807) :
    Calls Try.prog 61 #[.string s, .string ⟨#[47]⟩] w fun e w' => e = .returned (.bool (endSl s)) ∧ w' = w := by
  unfold endSl
  go_enter Try.func61, Try.ntmps61
  by_cases h : 1 ≤ s.size
  · have h1 : (1 : Int) ≤ (s.size : Int) := by omega
    have hlo : ((s.size : Int) - 1 + 9223372036854775808) % 18446744073709551616 - 9223372036854775808 = ((s.size - 1 : Nat) : Int) := by omega
    go_wp2_with fail
    go_ret
    exact ⟨ret_bool (by simp [h]), rfl⟩
  · have h1 : ¬ (1 : Int) ≤ (s.size : Int) := by omega
    go_wp2_with fail
    go_ret
    exact ⟨ret_bool (by simp), rfl⟩
theorem suffix_any (s : ByteArray) (w : World) (hs : s.size ≤ 9223372036854775807) :
    Calls Try.prog 51 #[.string s, .string ⟨#[47]⟩] w fun e w' => e = .returned (.bool (endSl s)) ∧ w' = w := by
  go_enter Try.func51, Try.ntmps51
  go_wp2_with fail
  refine (lsuffix_any s w hs).mono ?_
  rintro e w1 ⟨rfl, rfl⟩
  go_wp2_with fail
  go_ret
  exact ⟨rfl, rfl⟩

theorem quotedV_bd (q : Int) (s : ByteArray) (i : Nat) (h : i < s.size) : i < (quotedV q s i).2 ∧ (quotedV q s i).2 ≤ s.size := by
  have h1 := passTo_ge (fun c => c != q) s (i + 1)
  have h2 := passTo_le (fun c => c != q) s (i := i + 1) (by omega)
  unfold quotedV
  simp only
  split <;> omega
theorem valueV_bd (s : ByteArray) (i : Nat) (h : i < s.size) : i < (valueV s i).2 ∧ (valueV s i).2 ≤ s.size := by
  have h1 := passTo_ge blankB s (i + 1)
  have h2 := passTo_le blankB s (i := i + 1) (by omega)
  unfold valueV
  simp only
  split
  · rename_i hk
    have := quotedV_bd (byt s (passTo blankB s (i + 1))) s (passTo blankB s (i + 1)) hk.1
    omega
  · have h3 := passTo_ge valC s (passTo blankB s (i + 1))
    have h4 := passTo_le valC s h2
    simp only
    omega
theorem attrV_bd (s : ByteArray) (i : Nat) (h : i < s.size) : i < (attrV s i).2 ∧ (attrV s i).2 ≤ s.size := by
  have h1 := passTo_ge attrC s (i + 1)
  have h2 := passTo_le attrC s (i := i + 1) (by omega)
  have h3 := passTo_ge blankB s (nameEnd s i)
  have h4 := passTo_le blankB s (i := nameEnd s i) (by unfold nameEnd; omega)
  unfold nameEnd at h3 h4
  unfold attrV valueAt nameEnd
  simp only
  split
  · rename_i hk
    have := valueV_bd s _ hk.1
    omega
  · simp only; omega

/-- What a reader has read. -/
structure Rd where
  attrs : List (ByteArray × ByteArray)
  at_ : Nat
  single : Bool
  closed : Bool
/-- The rest of a mark from i on. -/
def restGo (s : ByteArray) : Nat → Nat → List (ByteArray × ByteArray) → Rd
  | 0, i, acc => ⟨acc, i, false, false⟩
  | f + 1, i, acc =>
    if s.size ≤ passTo skipC s i then ⟨acc, passTo skipC s i, false, false⟩
    else if byt s (passTo skipC s i) = 62 then ⟨acc, passTo skipC s i + 1, endSl (s.extract i (passTo skipC s i)), true⟩
    else restGo s f (attrV s (passTo skipC s i)).2 (acc ++ [(attrV s (passTo skipC s i)).1])
def restAt (s : ByteArray) (i : Nat) (acc : List (ByteArray × ByteArray)) : Rd := restGo s (s.size + 1 - i) i acc

theorem restGo_fuel (s : ByteArray) : ∀ (f f' i : Nat) (acc : List (ByteArray × ByteArray)), s.size + 1 - i ≤ f → s.size + 1 - i ≤ f' → i ≤ s.size → restGo s f i acc = restGo s f' i acc := by
  intro f
  induction f with
  | zero => intro f' i acc h1 h2 h3; omega
  | succ f ih =>
    intro f' i acc h1 h2 h3
    cases f' with
    | zero => omega
    | succ f' =>
      unfold restGo
      split
      · rfl
      · rename_i hk
        split
        · rfl
        · have h4 := passTo_ge skipC s i
          have h5 := attrV_bd s (passTo skipC s i) (by omega)
          exact ih f' _ _ (by omega) (by omega) h5.2
theorem restAt_end (s : ByteArray) (i : Nat) (acc) (hi : i ≤ s.size) (h : s.size ≤ passTo skipC s i) : restAt s i acc = ⟨acc, passTo skipC s i, false, false⟩ := by
  unfold restAt
  rw [show s.size + 1 - i = (s.size - i) + 1 by omega, restGo, if_pos h]
theorem restAt_close (s : ByteArray) (i : Nat) (acc) (hi : i ≤ s.size) (h : passTo skipC s i < s.size) (hc : byt s (passTo skipC s i) = 62) : restAt s i acc = ⟨acc, passTo skipC s i + 1, endSl (s.extract i (passTo skipC s i)), true⟩ := by
  unfold restAt
  rw [show s.size + 1 - i = (s.size - i) + 1 by omega, restGo, if_neg (by omega), if_pos hc]
theorem restAt_more (s : ByteArray) (i : Nat) (acc) (hi : i ≤ s.size) (h : passTo skipC s i < s.size) (hc : ¬ byt s (passTo skipC s i) = 62) : restAt s i acc = restAt s (attrV s (passTo skipC s i)).2 (acc ++ [(attrV s (passTo skipC s i)).1]) := by
  have h4 := passTo_ge skipC s i
  have h5 := attrV_bd s (passTo skipC s i) h
  unfold restAt
  rw [show s.size + 1 - i = (s.size - i) + 1 by omega, restGo, if_neg (by omega), if_neg hc]
  exact restGo_fuel s _ _ _ _ (by omega) (by omega) h5.2

/-- Attributes' cells. -/
def atCells (l : List (ByteArray × ByteArray)) : List Value := l.flatMap fun a => [.string a.1, .string a.2]
theorem atCells_snoc (l) (a : ByteArray × ByteArray) : atCells (l ++ [a]) = atCells l ++ [.string a.1, .string a.2] := by simp [atCells]

set_option maxRecDepth 100000 in
set_option maxHeartbeats 4000000 in
theorem rest_any (B g b off n cap i : Nat) (kd sz : Int) (nm : ByteArray) (v : Value) (s : ByteArray) (hn : n = s.size) (hi : i ≤ n) (hcap : n ≤ cap) (hc63 : cap ≤ 9223372036854775807)
    (hm : n ≤ 1048576) (w : World) (hbB : b < B) (hgB : B ≤ g) (hz : Lib.Bytes w b off s) (hblk : Blk w g 62 (rdr b off n cap i kd sz nm v false false)) (hown : w.ownsRow B 38 2 v 0 []) :
    Calls Try.prog 34 #[.pointer (some ⟨g, 0, none⟩)] w fun e w' =>
      e = .returned (.tuple #[]) ∧ Below B w w' ∧ ∃ v', Blk w' g 62 (rdr b off n cap (restAt s i []).at_ kd sz nm v' (restAt s i []).single (restAt s i []).closed) ∧ w'.ownsRow B 38 2 v' (restAt s i []).attrs.length (atCells (restAt s i []).attrs) := by
  have hgl := hblk.lt
  have hb : b ≠ g := by omega
  have HBK := hid hblk
  have HZ := hid hz
  have HN := hid hn
  have HOWN := hid hown
  clear hblk hz hn hown
  go_enter Try.func34, Try.ntmps34
  go_wp2_with fail
  go_loopg [2] n (fun kx s2 wr => ∃ (j : Nat) (acc : List (ByteArray × ByteArray)) (vr : Value), j ≤ n ∧ n - j ≤ kx ∧ acc.length ≤ j ∧ Hid (restAt s j acc = restAt s i []) ∧ Hid (Below B w wr) ∧ Hid (Blk wr g 62 (rdr b off n cap j kd sz nm vr false false)) ∧ Hid (wr.ownsRow B 38 2 vr acc.length (atCells acc)))
  case atStart => exact ⟨i, [], v, hi, by omega, Nat.zero_le _, rfl, Below.refl _ _, HBK.out, HOWN.out⟩
  case round =>
    obtain ⟨j, acc, vr, hj, hg, hal, HR, HB, HG, HO⟩ := hrel
    have hzr : Lib.Bytes wr b off s := Bytes.keepAt HZ.out fun k => World.cell?_of_block (HB.out.block b hbB)
    have hglr := HG.out.lt
    have hpass := pass_any 62 g b off n cap j _ s HN.out hj hcap hc63 49 #[] skipC (fun _ => True) wr (fun args w => by kernel_rfl)
      (fun W c _ => rest1_any c W) (fun W' hW' => trivial) hb (by omega) hzr HG.out
    have HPASS := hid hpass
    have HZR := hid hzr
    clear hpass hzr
    go_wp2_with fail
    refine HPASS.out.mono ?_
    rintro e w1 ⟨rfl, hG1, hB1⟩
    have hown1 : wr.ownsRow B 38 2 vr acc.length (atCells acc) := HO.out
    have hrow : ∀ k, vr.ownBlock = some k → k ≠ g := fun k hk e => own_blk_ne hown1 HG.out (by decide) (by rw [hk, e])
    have HO1 := hid (own_kept hown1 hG1 fun k hk e => hrow k hk (Option.some.inj e).symm)
    have HB1 := hid (HB.out.trans (below_of_grown hG1 hgB (by omega)))
    have HZ1 := hid (Bytes.keepAt HZR.out fun k => World.cell?_of_block (hG1.block b (by omega) (fun e => hb (Option.some.inj e))))
    have hk1 := passTo_le skipC s (i := j) (by have := HN.out; omega)
    have hk2 := passTo_ge skipC s j
    have hx := (show (s.extract j (passTo skipC s j)).size ≤ 9223372036854775807 by rw [ByteArray.size_extract]; have := HN.out; omega)
    have hend := restAt_end s j acc (by have := HN.out; omega)
    have hclose := restAt_close s j acc (by have := HN.out; omega)
    have hmore := restAt_more s j acc (by have := HN.out; omega)
    generalize passTo skipC s j = k at hB1 hk1 hk2 hx hend hclose hmore ⊢
    generalize s.extract j k = txt at hx hend hclose hmore ⊢
    have HEND := hid hend
    have HCLOSE := hid hclose
    have HMORE := hid hmore
    have c0 := hB1.cell 0
    have c1 := hB1.cell 1
    have fr := hB1.frozen
    simp only [List.getElem?_toArray, List.getElem?_cons_zero, List.getElem?_cons_succ] at c0 c1
    have hov := fun N => over_any g b off n cap k (w1.drewN N) ⟨c0, c1⟩
    have hpk := fun N => peek_any g b off cap k s n HN.out (w1.drewN N) (HZ1.out.drewN N) ⟨c0, c1⟩
    have HPK := hid hpk
    have HG1 := hid (show Blk w1 g 62 (rdr b off n cap k kd sz nm vr false false) from hB1)
    have hgl1 := hB1.lt
    clear hG1 hB1 hown1 hrow hend hclose hmore hpk HPASS
    by_cases hkn : n ≤ k
    · have hd : decide (n ≤ k) = true := by simpa using hkn
      rw [hd] at hov
      have HOV := hid hov
      have HE := hid (HR.out.symm.trans (HEND.out (by have := HN.out; omega)))
      clear hov hd
      go_wp2_with fail
      refine (HOV.out 0).mono ?_
      rintro e w2 ⟨rfl, nd, rfl⟩
      go_wp2_with fail
      (try simp only [Exit.inBlock, Exit.then])
      refine bodyPost_ret (results_none rfl _ _ _) rfl ?_
      rw [HE.out]
      exact ⟨rfl, HB1.out.trans (below_drewN _ _ nd), vr, HG1.out.drewN nd, own_drewN HO1.out nd⟩
    · have hd : decide (n ≤ k) = false := by simpa using hkn
      rw [hd] at hov
      have HOV := hid hov
      have hks : k < s.size := by have := HN.out; omega
      clear hov hd
      go_wp2_with fail
      refine (HOV.out 0).mono ?_
      rintro e w2 ⟨rfl, nd, rfl⟩
      go_wp2_with fail
      refine (HPK.out nd).mono ?_
      rintro e w3 ⟨rfl, nd3, rfl⟩
      have hpkv : pk s k = byt s k := by unfold pk; rw [if_pos hks]
      rw [hpkv]
      clear hpkv
      by_cases h62 : byt s k = 62
      · rw [h62]
        have HE := hid (HR.out.symm.trans (HCLOSE.out hks h62))
        have c1' := (HG1.out.drewN (nd + nd3)).cell 1
        have hSF := fun W => suffix_any txt W hx
        have HSF := hid hSF
        have hk1' : (k : Int) + 1 ≤ 9223372036854775807 := by omega
        clear h62 hSF hx c1'
        go_wp2_with fail
        refine (HSF.out _).mono ?_
        rintro e w4 ⟨rfl, rfl⟩
        have hg5 := (HG1.out.drewN (nd + nd3)).set_ 1 (.int .i64 ((k : Int) + 1))
        have hb5 : Below B w ((w1.drewN (nd + nd3)).setCell ⟨g, 1, none⟩ (.int .i64 ((k : Int) + 1))) := (HB1.out.trans (below_drewN _ _ _)).setCell (p := ⟨g, 1, none⟩) hgB _
        have hr5 : ∀ q, vr.ownBlock = some q → some g ≠ some q := fun q hq e => own_blk_ne HO1.out HG1.out (by decide) (hq.trans e.symm)
        have ho5 : ((w1.drewN (nd + nd3)).setCell ⟨g, 1, none⟩ (.int .i64 ((k : Int) + 1))).ownsRow B 38 2 vr acc.length (atCells acc) := own_kept (own_drewN HO1.out _) (grown_set _ g 1 _) hr5
        generalize (w1.drewN (nd + nd3)).setCell ⟨g, 1, none⟩ (.int .i64 ((k : Int) + 1)) = w5 at *
        have hg5' : Blk w5 g 62 (rdr b off n cap (k + 1) kd sz nm vr false false) := by simpa [rdr] using hg5
        have c6 := hg5'.cell 6
        have c7 := hg5'.cell 7
        have fr5 := hg5'.frozen
        simp only [rdr, List.getElem?_toArray, List.getElem?_cons_zero, List.getElem?_cons_succ] at c6 c7
        have HG5 := hid hg5'
        have HB5 := hid hb5
        have HO5 := hid ho5
        have HR5 := hid hr5
        clear hg5 hg5' hb5 ho5 hr5 fr c0 c1
        go_wp2_with fail
        (try simp only [Exit.inBlock, Exit.then])
        refine bodyPost_ret (results_none rfl _ _ _) rfl ?_
        rw [HE.out]
        refine ⟨rfl, (HB5.out.setCell (p := ⟨g, 7, none⟩) hgB _).setCell (p := ⟨g, 6, none⟩) hgB _, vr, ?_, ?_⟩
        · have := (HG5.out.set_ 7 (.bool true)).set_ 6 (.bool (endSl txt))
          simpa [rdr] using this
        · exact own_kept (own_kept HO5.out (grown_set _ g 7 _) HR5.out) (grown_set _ g 6 _) HR5.out
      · have h62b : (byt s k == 62) = false := by simpa using h62
        have HE := hid (HR.out.symm.trans (HMORE.out hks h62))
        have hbd := attrV_bd s k hks
        have hatt := attr_any B g b off n cap k kd sz nm vr false false acc.length (atCells acc) s HN.out (by omega) hcap hc63 (by omega) (w1.drewN (nd + nd3)) hbB hgB (HZ1.out.drewN _) (HG1.out.drewN _) (own_drewN HO1.out _)
        have HATT := hid hatt
        generalize byt s k = c at h62b
        rw [World.drewN_drewN]
        clear h62 hatt
        go_wp2_with fail
        refine HATT.out.mono ?_
        rintro e w4 ⟨rfl, hB4, v4, hG4, hO4⟩
        go_wp2_with fail
        go_roundg (n - (attrV s k).2)
        case measure => have := HN.out; omega
        case rel =>
          refine ⟨(attrV s k).2, acc ++ [(attrV s k).1], v4, by have := HN.out; omega, Nat.le_refl _, by simp; omega, HE.out.symm, HB1.out.trans ((below_drewN _ _ _).trans hB4), hG4, ?_⟩
          show World.ownsRow _ _ _ _ _ _ _
          rw [atCells_snoc, List.length_append]
          exact hO4
end Go.Proofs.Ytpkbmgpbagdalaa
