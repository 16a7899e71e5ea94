/- Chapter 20: bytes, cut into pieces: the walk. -/
import Derived.Test.YtpnbkecchfhimaaGreatDoorFdR
namespace Go.Proofs.YtpnbkecchfhimaaGreatDoor
open Go.RowKit Go.Shelf
open Go.Lib (hid)
set_option linter.unusedVariables false
set_option linter.unusedSimpArgs false
set_option maxRecDepth 100000

/-- A piece: the slice, and its bytes. -/
structure Pz where
  A : Option Addr
  n : Nat
  c : Nat
  t : ByteArray
def Pz.val (p : Pz) : Value := .slice p.A p.n p.c
def Pz.ok (w : World) (p : Pz) : Prop := BA w p.A p.n p.c p.t
def catB : List Pz → ByteArray
  | [] => ⟨#[]⟩
  | p :: l => p.t ++ catB l
theorem bapp_nil (x : ByteArray) : x ++ (⟨#[]⟩ : ByteArray) = x := by
  apply ByteArray.ext
  simp
theorem bnil_app (x : ByteArray) : (⟨#[]⟩ : ByteArray) ++ x = x := by
  apply ByteArray.ext
  simp
theorem bapp_assoc (x y z : ByteArray) : x ++ y ++ z = x ++ (y ++ z) := by
  apply ByteArray.ext
  simp [ByteArray.data_append, Array.append_assoc]
theorem catB_snoc (p : Pz) : ∀ l : List Pz, catB (l ++ [p]) = catB l ++ p.t
  | [] => by show p.t ++ ⟨#[]⟩ = ⟨#[]⟩ ++ p.t; rw [bapp_nil, bnil_app]
  | q :: l => by
    show q.t ++ catB (l ++ [p]) = q.t ++ catB l ++ p.t
    rw [catB_snoc p l, bapp_assoc]
theorem slice_hi {W : World} {A : Option Addr} {n c : Nat} {s : ByteArray} (h : BA W A n c s) {k : Nat} (hk : k ≤ n) :
    (∀ W' : World, (Instr.slice 22 (.slice A n c) none (some (.int .i64 k)) none).run Tryz.prog W' = .ok (.slice A k c) W') ∧ BA W A k c (s.extract 0 k) := by
  obtain ⟨b1, b2, b3, b4⟩ := h
  refine ⟨fun W' => ?_, by rw [ByteArray.size_extract]; omega, by omega, b3, fun h0 => ?_⟩
  · rw [run_slice_h (P := Tryz.prog) W' 22 _ n c rfl .i64 k (by omega) (by omega)]
    have hs : (sizeOf (Tryz.prog.elem 22)).run Tryz.prog W' = .ok 1 W' := by go_simp
    rw [hs]
    by_cases hc : c = 0
    · subst hc
      simp [Result.andThen, sliced]
    · simp [Result.andThen, sliced, Addr.add]
  · obtain ⟨b, off, e, hb, hz⟩ := b4 (by omega)
    refine ⟨b, off, e, hb, ?_⟩
    apply bytes_of_byt
    intro i hi
    rw [ByteArray.size_extract] at hi
    rw [byt_extract s 0 k i (by omega) (by omega), Nat.zero_add, bytes_cell hz (i := i) (by omega)]
def loA (A : Option Addr) (c k : Nat) : Option Addr := if c = k then A else A.map (·.add k)
theorem slice_lo_run (A : Option Addr) (n c k : Nat) (h : k ≤ n) (h2 : n ≤ c) (W' : World) : (Instr.slice 22 (.slice A n c) (some (.int .i64 k)) none none).run Tryz.prog W' = .ok (.slice (loA A c k) (n - k) (c - k)) W' := by
  rw [run_slice_l (P := Tryz.prog) W' 22 _ n c rfl .i64 k (by omega) (by omega)]
  have hs : (sizeOf (Tryz.prog.elem 22)).run Tryz.prog W' = .ok 1 W' := by go_simp
  rw [hs]
  unfold loA
  by_cases hc : c = k
  · subst hc
    simp [Result.andThen, sliced]
  · simp only [Result.andThen, sliced, Int.toNat_natCast, if_neg hc, Nat.mul_one]
theorem slice_lo_ba {W : World} {A : Option Addr} {n c : Nat} {s : ByteArray} (h : BA W A n c s) {k : Nat} (hk : k ≤ n) : BA W (loA A c k) (n - k) (c - k) (s.extract k s.size) := by
  obtain ⟨b1, b2, b3, b4⟩ := h
  unfold loA
  by_cases h0 : k = n
  · subst h0
    exact ⟨by rw [ByteArray.size_extract]; omega, by omega, by omega, fun h => by omega⟩
  · obtain ⟨b, off, rfl, hb, hz⟩ := b4 (by omega)
    rw [if_neg (by omega)]
    have := ba_segF hz hb b1 b2 b3 hk (Nat.le_refl n)
    rw [Option.map_some, show (Addr.add ⟨b, off, none⟩ k) = ⟨b, off + k, none⟩ by unfold Addr.add; split <;> simp_all]
    rw [b1] at this ⊢
    exact this
theorem info_by : (Tryz.prog.info? 22).map (fun i => (i.zero, i.size, i.bytes)) = some (some (.slice none 0 0), 1, 24) := by kernel_rfl
theorem catB_take {l : List Pz} {i : Nat} (h : i < l.length) : catB (l.take (i + 1)) = catB (l.take i) ++ l[i].t := by
  rw [List.take_add_one, List.getElem?_eq_getElem h]
  exact catB_snoc _ _
set_option maxHeartbeats 8000000 in
theorem cut_any (A : Option Addr) (n cap : Nat) (s : ByteArray) (A2 : Option Addr) (n2 c2 : Nat) (z : ByteArray) (w : World) (h1 : BA w A n cap s) (h2 : BA w A2 n2 c2 z) (hn : n ≤ 1000) (hn2 : n2 ≤ 1000) :
    Calls Tryz.prog 14 #[.slice A n cap, .slice A2 n2 c2] w fun e w' => ∃ v pl, e = .returned v ∧ w'.ownsRow w.heap.size 22 1 v pl.length (pl.map Pz.val) ∧ pl.length = n2 + 1 ∧ (∀ p ∈ pl, (∀ W0, BA W0 A n cap s → Pz.ok W0 p) ∧ p.n ≤ n) ∧ catB pl = s ∧ Below w.heap.size w w' := by
  obtain ⟨i0, hi, hz0, hz1, hz2⟩ := info_parts info_by
  have H1 := hid h1
  have H2 := hid h2
  clear h1 h2
  go_enter Tryz.func14, Tryz.ntmps14
  go_wp2_with fail
  go_loopg [0, 5, 6] n2 (fun kx s0 s5 s6 wr => ∃ (A' : Option Addr) (n' c' i : Nat) (v : Value) (r : ByteArray) (pl : List Pz), s0 = .slice A' n' c' ∧ s5 = v ∧ s6 = .int .i64 i ∧ i ≤ n2 ∧ n2 - i ≤ kx ∧ n' ≤ n ∧ Hid (∀ W0, BA W0 A n cap s → BA W0 A' n' c' r) ∧ Hid (wr.ownsRow w.heap.size 22 1 v i (pl.map Pz.val)) ∧ Hid (∀ p ∈ pl, (∀ W0, BA W0 A n cap s → Pz.ok W0 p) ∧ p.n ≤ n) ∧ Hid (catB pl ++ r = s) ∧ Hid (Below w.heap.size w wr))
  case atStart => exact ⟨A, n, cap, 0, _, s, [], rfl, rfl, rfl, Nat.zero_le _, Nat.le_refl _, Nat.le_refl _, (fun W0 h => h), World.ownsRow_nil _ _ _ _, (fun p h => by cases h), bnil_app s, Below.refl _ _⟩
  case round =>
    obtain ⟨A', n', c', i, v, r, pl, rfl, rfl, rfl, hi1, hg, hn', HBA, HROW, HPL, HCAT, HB⟩ := hrel
    have hszr := HB.out.size
    obtain ⟨Av, cv, rfl⟩ := owns_slice HROW.out
    by_cases hlt : i < n2
    · have hlt' : (i : Int) < (n2 : Int) := by omega
      obtain ⟨b2, off2, rfl, hb2, hz2'⟩ := H2.out.2.2.2 (by omega)
      have x0 := (HB.out.cell (p := ⟨b2, off2 + i, none⟩) hb2).trans (bytes_cell hz2' (i := i) (by have := H2.out.1; omega))
      have hbr : 0 ≤ byt z i ∧ byt z i ≤ 255 := by
        unfold byt
        have := (z.data.getD i 0).toNat_lt
        omega
      obtain ⟨q, hq⟩ := Int.eq_ofNat_of_zero_le hbr.1
      rw [hq] at x0 hbr
      obtain ⟨k, hk⟩ : ∃ k, k = min q n' := ⟨_, rfl⟩
      have hkn : k ≤ n' := by omega
      have hmin : min (q : Int) (n' : Int) = (k : Int) := by omega
      have hwq : IntKind.i64.wrap (q : Int) = q := IntWalk.i64_in _ (by omega)
      have hs1 := (slice_hi (HBA.out w H1.out) hkn).1
      have hs2 := slice_lo_run A' n' c' k hkn (HBA.out w H1.out).2.1
      have HBA1 := hid (fun W0 h => (slice_hi (HBA.out W0 h) hkn).2)
      have HBA2 := hid (fun W0 h => slice_lo_ba (HBA.out W0 h) hkn)
      have HKN := hid hkn
      have HC2 := hid (show catB (pl ++ [⟨A', k, c', r.extract 0 k⟩]) ++ r.extract k r.size = s by
        rw [catB_snoc]
        show catB pl ++ r.extract 0 k ++ r.extract k r.size = s
        rw [bapp_assoc, ← HCAT.out]
        congr 1
        apply ByteArray.ext
        have hrn := (HBA.out w H1.out).1
        rw [ByteArray.data_append, ByteArray.data_extract, ByteArray.data_extract, Array.extract_append_extract]
        have e1 : r.data.size = r.size := rfl
        rw [show min 0 k = 0 by omega, show max k r.size = r.size by omega, ← e1]
        simp)
      generalize loA A' c' k = A3 at *
      generalize c' - k = c3 at *
      clear hk hkn hbr hq hb2 hz2'
      go_wp2_with (at_builtin; go_must (refine wpList_append_any _ rfl (.tmp 22) (.tmp 26) 31 rfl w.heap.size 22 i0 (.slice none 0 0) 1 24 Tryz.underlying31 hi hz0 hz1 hz2 rfl (by decide) _ i (pl.map Pz.val) rfl (HROW.out.alloc _) (wr.heap.size + 1) (some ⟨wr.heap.size, 0, none⟩) 1 1 [.slice A' k c'] rfl ⟨rfl, fun _ => ⟨_, rfl, by simp, fun j u hu => by
          have hj : j = 0 := by
            have := (List.getElem?_eq_some_iff.1 hu).1
            simp at this
            omega
          subst hj
          rw [addr0F]
          exact ((Blk.new wr 22 #[.slice A' k c']).cell 0).trans hu⟩⟩ (by intro u hu; simp at hu; subst hu; rfl) (by unfold maxLen; omega) (by omega) (by simp; omega) ?_); intro v6 w6 hown6 hgrow6 _)
      have HB6 := hid ((HB.out.alloc hszr (.cells #[.slice A' k c'] 22)).grown hgrow6 (by simp; omega) (fun j e => (HROW.out.lt j e).1))
      go_roundg (n2 - (i + 1))
      case measure => omega
      case rel => exact ⟨A3, n' - k, c3, i + 1, v6, r.extract k r.size, pl ++ [Pz.mk A' k c' (r.extract 0 k)], rfl, rfl, by go_num, by omega, Nat.le_refl _, by omega, HBA2.out, by
        show World.ownsRow _ _ _ _ _ _ _
        rw [List.map_append]
        exact hown6, (fun p hp => by
          rcases List.mem_append.1 hp with h | h
          · exact HPL.out p h
          · simp at h
            subst h
            exact ⟨HBA1.out, by have := HKN.out; show k ≤ n; omega⟩), HC2.out, HB6.out⟩
    · obtain rfl : i = n2 := by omega
      have hlt' : ¬ (i : Int) < (i : Int) := by omega
      go_wp2_with (at_builtin; go_must (refine wpList_append_any _ rfl (.tmp 31) (.tmp 33) 31 rfl w.heap.size 22 i0 (.slice none 0 0) 1 24 Tryz.underlying31 hi hz0 hz1 hz2 rfl (by decide) _ i (pl.map Pz.val) rfl (HROW.out.alloc _) (wr.heap.size + 1) (some ⟨wr.heap.size, 0, none⟩) 1 1 [.slice A' n' c'] rfl ⟨rfl, fun _ => ⟨_, rfl, by simp, fun j u hu => by
          have hj : j = 0 := by
            have := (List.getElem?_eq_some_iff.1 hu).1
            simp at this
            omega
          subst hj
          rw [addr0F]
          exact ((Blk.new wr 22 #[.slice A' n' c']).cell 0).trans hu⟩⟩ (by intro u hu; simp at hu; subst hu; rfl) (by unfold maxLen; omega) (by omega) (by simp; omega) ?_); intro v6 w6 hown6 hgrow6 _)
      have HB6 := hid ((HB.out.alloc hszr (.cells #[.slice A' n' c'] 22)).grown hgrow6 (by simp; omega) (fun j e => (HROW.out.lt j e).1))
      go_ret
      have hpl : pl.length = i := by
        have h := HROW.out.1
        rw [List.length_map] at h
        omega
      refine ⟨v6, rfl, pl ++ [⟨A', n', c', r⟩], ?_, by rw [List.length_append, hpl]; rfl, fun p hp => ?_, by rw [catB_snoc]; exact HCAT.out, HB6.out⟩
      · rw [List.map_append, List.length_append, hpl]
        exact hown6
      · rcases List.mem_append.1 hp with h | h
        · exact HPL.out p h
        · simp at h
          subst h
          exact ⟨HBA.out, hn'⟩
end Go.Proofs.YtpnbkecchfhimaaGreatDoor
