/- The walk of the law TokenParts. -/
import Derived.Test.YtaklajbifkljjaaGreatDoorTkLaid
import Derived.Test.YtaklajbifkljjaaGreatDoorTkR
import Derived.Test.YtaklajbifkljjaaGreatDoorTkP3
import Derived.BigQuiet
import Derived.BigRegion
import Derived.Test.YtaklajbifkljjaaGreatDoorOpen
namespace Go.Proofs.YtaklajbifkljjaaGreatDoor.tokenParts
open Go.RowKit Go.Shelf
open Go.Lib (hid)
set_option linter.unusedVariables false
set_option maxRecDepth 100000

theorem ba_tail {w : World} {b off n cap i : Nat} {s : ByteArray} (h : BA w (some ⟨b, off, none⟩) n cap s) (hi : i ≤ n) : BA w (some ⟨b, offIf cap i off, none⟩) (n - i) (cap - i) (s.extract i s.size) := by
  obtain ⟨h1, h2, h3, h4⟩ := h
  refine ⟨by rw [ext_size, ← h1], by omega, by omega, fun hn => ?_⟩
  obtain ⟨b', off', e, hbl, hz⟩ := h4 (by omega)
  injection e with e
  injection e with e1 e2 _
  subst e1
  subst e2
  have hzt := bytes_tail (i := i) h1 h2 hz
  refine ⟨b, offIf cap i off, rfl, hbl, bytes_of_byt fun j hj => ?_⟩
  rw [ext_size] at hj
  exact hzt j (by omega)
theorem toks_nil {s : ByteArray} (h : toks s = []) : s.size = 0 := by
  have := toks_tiles s
  rw [h] at this
  exact (show 0 = s.size from this).symm
set_option maxHeartbeats 16000000 in
theorem walk (b : Option Addr) (bLen bCap : Nat) (bD : List Int) (k : Int) (w : World) (w0 : IsRow .u8 w b bLen bCap bD) (w1 : (Lit.int .u8 k).wf = true) (hsh : w.ShapedOpen Tryz.prog) (hdb : Hx.Db w) :
    Calls Tryz.prog 10 #[.slice b bLen bCap, .int .u8 k] w fun e w' => e = .returned (.bool true) ∧ Below w.heap.size w w' := by
  have hmx := mx_of hsh
  obtain ⟨s, hba⟩ := ba_of w0
  have HAW := hid (fun W (h : Below w.heap.size w W) => tkawake_any W (hdb.below h (Nat.le_refl _)) (hmx.below h (Nat.le_refl _)))
  by_cases hbig : 300 < bLen
  · have hbig' : (300 : Int) < (bLen : Int) := by omega
    clear hba w0 w1
    go_enter Tryz.func10, Tryz.ntmps10
    go_wp2_with fail
    refine (HAW.out _ (Below.refl _ _)).mono ?_
    rintro e w2 ⟨rfl, hb2⟩
    have HB2 := hid hb2
    clear hb2
    go_wp2_with fail
    go_ret
    exact ⟨rfl, HB2.out⟩
  have hbig' : ¬ (300 : Int) < (bLen : Int) := by omega
  have hkr : 0 ≤ k ∧ k ≤ 255 := by
    simp only [Lit.wf, IntKind.min, IntKind.max, IntKind.signed, IntKind.bits, Bool.and_eq_true] at w1
    have h1 := of_decide_eq_true w1.1
    have h2 := of_decide_eq_true w1.2
    simp at h1 h2
    omega
  obtain ⟨kk, rfl⟩ : ∃ kk : Nat, k = kk := ⟨k.toNat, by omega⟩
  have hkk : kk ≤ 255 := by omega
  have HBA := hid (fun W (h : Below w.heap.size w W) => hba.below h (Nat.le_refl _))
  have HMX := hid (fun W (h : Below w.heap.size w W) => hmx.below h (Nat.le_refl _))
  have HALL := hid (fun W (h : Below w.heap.size w W) => tokAll_any b bLen bCap s W (hba.below h (Nat.le_refl _)) (hmx.below h (Nat.le_refl _)) (by omega))
  have hls := hba.1
  have HLS := hid hls
  have hcap := hba.2.1
  have hsome : 0 < bLen → ∃ b' off, b = some ⟨b', off, none⟩ := fun h => by
    obtain ⟨b', off, e, _⟩ := hba.2.2.2 h
    exact ⟨b', off, e⟩
  have HSOME := hid hsome
  clear hba w0 hmx hdb hsh w1 hkr hls hsome
  go_enter Tryz.func10, Tryz.ntmps10
  go_wp2_with fail
  refine (HAW.out _ (Below.refl _ _)).mono ?_
  rintro e w2 ⟨rfl, hb2⟩
  have HB2 := hid hb2
  clear hb2
  go_wp2_with fail
  refine (HALL.out _ HB2.out).mono ?_
  rintro e w3 ⟨v, rfl, hmd, hb3⟩
  obtain ⟨A, cap, rfl, htr⟩ := TR.of_made hmd
  have HB3 := hid (HB2.out.trans (hb3.mono HB2.out.size))
  have HTR := hid htr
  have hn300 : (toks s).length ≤ 300 := by
    have := toks_len s
    have := HLS.out
    omega
  have HDROP := hid (fun j t h hk => toks_drop (s := s) (j := j) (t := t) h hk)
  have HMEM := hid (fun j t (h : (toks s)[j]? = some t) => toks_mem (List.mem_of_getElem? h))
  have HNIL := hid (fun h => toks_nil (s := s) h)
  generalize toks s = l at *
  obtain ⟨n, hn⟩ : ∃ n, n = l.length := ⟨_, rfl⟩
  rw [← hn] at HTR hn300
  have HN := hid hn
  clear hb3 hmd htr HALL HAW
  rw [← hn]
  clear hn
  by_cases hn0 : n = 0
  · subst hn0
    have h0 := HNIL.out (List.eq_nil_of_length_eq_zero HN.out.symm)
    rw [← HLS.out] at h0
    subst h0
    go_wp2_with fail
    go_ret
    exact ⟨rfl, HB3.out⟩
  have hn1 : ¬ (n : Int) = 0 := by omega
  have hn1b : ((n : Int) == 0) = false := by simpa using hn1
  have hnp : (0 : Int) < (n : Int) := by omega
  obtain ⟨i, hi⟩ : ∃ i, i = kk % n := ⟨_, rfl⟩
  have hin : i < n := by rw [hi]; exact Nat.mod_lt _ (by omega)
  have hmod : (kk : Int).tmod (n : Int) = (i : Int) := by rw [hi]; rfl
  have hmod2 : (kk : Int) % (n : Int) = (i : Int) := by rw [hi]; omega
  have HI := hid hi
  clear hi hn0
  have hil : i < l.length := by rw [← HN.out]; exact hin
  have hin' : (i : Int) < (n : Int) := by omega
  obtain ⟨g, rfl, hgl, x0, x1, x2, x3, x4, x5⟩ := HTR.out.at_ hil
  have hget : l[i]? = some l[i] := List.getElem?_eq_getElem hil
  have hmem := HMEM.out i _ hget
  have hdrop := HDROP.out i _ hget
  have hfl : l[i].fr < bLen := by have := HLS.out; omega
  obtain ⟨bb, off, rfl⟩ := HSOME.out (by omega)
  generalize hkd : l[i].kind = kd at *
  generalize hat : l[i].fr = at_ at *
  have HKD := hid hkd
  clear hkd hat
  have hatn : at_ ≤ bLen := by omega
  have hatx : ¬ bCap = at_ := by omega
  have hsl := fun W => slice_tail bb off bLen bCap at_ hatn hcap W
  have hre : ∀ W, Below w.heap.size w W → Calls Tryz.prog 14 #[.slice (some ⟨bb, offIf bCap at_ off, none⟩) (bLen - at_) (bCap - at_)] W fun e W' => ∃ v, e = .returned v ∧ MadeT W.heap.size W' v (toks (s.extract at_ s.size)) ∧ Below W.heap.size W W' :=
    fun W h => tokAll_any _ _ _ _ W (ba_tail (HBA.out W h) hatn) (HMX.out W h) (by omega)
  have HRE := hid hre
  by_cases hk7 : kd = 7
  · subst hk7
    clear hre hdrop hmem
    go_wp2_with fail
    go_ret
    exact ⟨rfl, HB3.out⟩
  have hk7b : (kd == 7) = false := by simpa using hk7
  have hdr := hdrop hk7
  have hlr : (toks (s.extract at_ s.size)).length = n - i := by
    have := congrArg List.length hdr
    rw [List.length_drop, List.length_map] at this
    rw [← this, HN.out]
  have hel : ∀ (j : Nat) (hj : j < (toks (s.extract at_ s.size)).length), ∃ h : i + j < l.length, l[i + j] = Tk.up at_ (toks (s.extract at_ s.size))[j] := fun j hj => by
    have h1 : i + j < l.length := by rw [← HN.out]; omega
    refine ⟨h1, ?_⟩
    have h2 := congrArg (fun l => l[j]?) hdr
    simp only [List.getElem?_drop, List.getElem?_map] at h2
    rw [List.getElem?_eq_getElem h1, List.getElem?_eq_getElem hj] at h2
    injection h2
  have HRM := hid (fun (j : Nat) (hj : j < (toks (s.extract at_ s.size)).length) => (show (toks (s.extract at_ s.size))[j].fr ≤ 300 ∧ (toks (s.extract at_ s.size))[j].til ≤ 300 by
    have h1 := toks_mem (List.getElem_mem hj)
    rw [ext_size] at h1
    have := HLS.out
    omega))
  generalize toks (s.extract at_ s.size) = r at *
  have HEL := hid hel
  have HLR := hid hlr
  clear hre hdrop hmem hk7 hdr hel hlr hget x2 x3 x4 x5
  rcases Nat.eq_zero_or_pos i with hi0 | hi0
  · have hi0b : ¬ (0 : Int) < (i : Int) := by omega
    clear hi0
    go_wp2_with fail
    refine (HRE.out _ HB3.out).mono ?_
    rintro e w5 ⟨v, rfl, hmd, hb5⟩
    obtain ⟨A2, cap2, rfl, htr2⟩ := TR.of_made hmd
    have HB5 := hid (HB3.out.trans (hb5.mono HB3.out.size))
    have HTRa := hid (HTR.out.below hb5 (Nat.le_refl _))
    have HTR2 := hid htr2
    obtain ⟨m, hm⟩ : ∃ m, m = r.length := ⟨_, rfl⟩
    rw [← hm] at HTR2 HLR
    have HM := hid hm
    rw [← hm]
    have hni : (n : Int) - (i : Int) = (m : Int) := by have := HLR.out; omega
    have hm300 : m ≤ 300 := by have := HLR.out; omega
    clear hb5 hmd htr2 HRE hm x0 x1 hsl hmod hmod2 HTR
    go_wp2_with fail
    go_loopg [9] m (fun kx s9 wr => ∃ j : Nat, s9 = .int .i64 j ∧ j ≤ m ∧ m - j ≤ kx ∧ Hid (Below w5.heap.size w5 wr))
    case atStart => exact ⟨0, rfl, Nat.zero_le _, Nat.le_refl _, Below.refl _ _⟩
    case round =>
      obtain ⟨j, rfl, hj, hg, HBR⟩ := hrel
      by_cases hlt : j < m
      · have hlt' : (j : Int) < (m : Int) := by omega
        have hjl : j < r.length := by rw [← HM.out]; exact hlt
        obtain ⟨hij, hup⟩ := HEL.out j hjl
        obtain ⟨g1, e1, hg1, x0, x1, x2, x3, x4, x5⟩ := (HTRa.out.below HBR.out (Nat.le_refl _)).at_ hij
        injection e1 with e1
        injection e1 with e1 _ _
        subst e1
        obtain ⟨g2, rfl, hg2, y0, y1, y2, y3, y4, y5⟩ := (HTR2.out.below HBR.out (Nat.le_refl _)).at_ hjl
        rw [hup] at x0 x1 x2 x3 x4 x5
        simp only [Tk.up] at x0 x1 x2 x3 x4 x5
        have hrm := HRM.out j hjl
        generalize r[j] = t at *
        obtain ⟨tk, tf, tt, tn, tr, ts⟩ := t
        simp only at x0 x1 x2 x3 x4 x5 y0 y1 y2 y3 y4 y5 hrm
        obtain ⟨hr1, hr2⟩ := hrm
        obtain ⟨ij, hije⟩ : ∃ ij, ij = i + j := ⟨_, rfl⟩
        have hij2 : (i : Int) + (j : Int) = (ij : Int) := by omega
        have hijn : (ij : Int) < (n : Int) := by have := HLR.out; omega
        rw [← hije] at x0 x1 x2 x3 x4 x5
        have HIJ := hid hije
        clear hije hup
        go_upto_region 16 with fail
        go_region
        · have hs5 := HBR.out.size
          have hB2 := (((Below.refl wr.heap.size wr).alloc (Nat.le_refl _) (.cells #[.int .i64 tk, .int .i64 ((tf : Int) + (at_ : Int)), .int .i64 ((tt : Int) + (at_ : Int)), .string tn, .int .i32 tr, .bool ts] 30)).alloc (by simp) (.cells #[.int .i64 tk, .int .i64 tf, .int .i64 tt, .string tn, .int .i32 tr, .bool ts] 30)).drew
          have q1 := ((Blk.new wr 30 #[.int .i64 tk, .int .i64 ((tf : Int) + (at_ : Int)), .int .i64 ((tt : Int) + (at_ : Int)), .string tn, .int .i32 tr, .bool ts]).alloc (.cells #[.int .i64 tk, .int .i64 tf, .int .i64 tt, .string tn, .int .i32 tr, .bool ts] 30)).drew
          have q2 := (Blk.new (wr.alloc (.cells #[.int .i64 tk, .int .i64 ((tf : Int) + (at_ : Int)), .int .i64 ((tt : Int) + (at_ : Int)), .string tn, .int .i32 tr, .bool ts] 30)) 30 #[.int .i64 tk, .int .i64 tf, .int .i64 tt, .string tn, .int .i32 tr, .bool ts]).drew
          rw [World.size_alloc] at q2
          generalize ((wr.alloc (.cells #[.int .i64 tk, .int .i64 ((tf : Int) + (at_ : Int)), .int .i64 ((tt : Int) + (at_ : Int)), .string tn, .int .i32 tr, .bool ts] 30)).alloc (.cells #[.int .i64 tk, .int .i64 tf, .int .i64 tt, .string tn, .int .i32 tr, .bool ts] 30)).drew = W6 at *
          have u0 := q1.cell 0
          have u1 := q1.cell 1
          have u2 := q1.cell 2
          have u3 := q1.cell 3
          have u4 := q1.cell 4
          have u5 := q1.cell 5
          have v0 := q2.cell 0
          have v1 := q2.cell 1
          have v2 := q2.cell 2
          have v3 := q2.cell 3
          have v4 := q2.cell 4
          have v5 := q2.cell 5
          simp only [List.getElem?_toArray, List.getElem?_cons_zero, List.getElem?_cons_succ] at u0 u1 u2 u3 u4 u5 v0 v1 v2 v3 v4 v5
          have HB6 := hid (HBR.out.trans (hB2.mono hs5))
          clear hB2 q1 q2 x0 x1 x2 x3 x4 x5 y0 y1 y2 y3 y4 y5 hs5
          go_wp2_with fail
          go_roundg (m - (j + 1))
          case measure => omega
          case rel => exact ⟨j + 1, by go_num, by omega, Nat.le_refl _, HB6.out⟩
        · have hs5 := HBR.out.size
          have hB2 := (((Below.refl wr.heap.size wr).alloc (Nat.le_refl _) (.cells #[.int .i64 tk, .int .i64 tf, .int .i64 tt, .string tn, .int .i32 tr, .bool ts] 30)).alloc (by simp) (.cells #[.int .i64 tk, .int .i64 ((tf : Int) + (at_ : Int)), .int .i64 ((tt : Int) + (at_ : Int)), .string tn, .int .i32 tr, .bool ts] 30)).drew
          have q1 := ((Blk.new wr 30 #[.int .i64 tk, .int .i64 tf, .int .i64 tt, .string tn, .int .i32 tr, .bool ts]).alloc (.cells #[.int .i64 tk, .int .i64 ((tf : Int) + (at_ : Int)), .int .i64 ((tt : Int) + (at_ : Int)), .string tn, .int .i32 tr, .bool ts] 30)).drew
          have q2 := (Blk.new (wr.alloc (.cells #[.int .i64 tk, .int .i64 tf, .int .i64 tt, .string tn, .int .i32 tr, .bool ts] 30)) 30 #[.int .i64 tk, .int .i64 ((tf : Int) + (at_ : Int)), .int .i64 ((tt : Int) + (at_ : Int)), .string tn, .int .i32 tr, .bool ts]).drew
          rw [World.size_alloc] at q2
          generalize ((wr.alloc (.cells #[.int .i64 tk, .int .i64 tf, .int .i64 tt, .string tn, .int .i32 tr, .bool ts] 30)).alloc (.cells #[.int .i64 tk, .int .i64 ((tf : Int) + (at_ : Int)), .int .i64 ((tt : Int) + (at_ : Int)), .string tn, .int .i32 tr, .bool ts] 30)).drew = W6 at *
          have v0 := q1.cell 0
          have v1 := q1.cell 1
          have v2 := q1.cell 2
          have v3 := q1.cell 3
          have v4 := q1.cell 4
          have v5 := q1.cell 5
          have u0 := q2.cell 0
          have u1 := q2.cell 1
          have u2 := q2.cell 2
          have u3 := q2.cell 3
          have u4 := q2.cell 4
          have u5 := q2.cell 5
          simp only [List.getElem?_toArray, List.getElem?_cons_zero, List.getElem?_cons_succ] at u0 u1 u2 u3 u4 u5 v0 v1 v2 v3 v4 v5
          have HB6 := hid (HBR.out.trans (hB2.mono hs5))
          clear hB2 q1 q2 x0 x1 x2 x3 x4 x5 y0 y1 y2 y3 y4 y5 hs5
          go_wp2_with fail
          go_roundg (m - (j + 1))
          case measure => omega
          case rel => exact ⟨j + 1, by go_num, by omega, Nat.le_refl _, HB6.out⟩
      · have hlt' : ¬ (j : Int) < (m : Int) := by omega
        clear hlt hg
        go_wp2_with fail
        go_ret
        exact ⟨rfl, HB5.out.trans (HBR.out.mono HB5.out.size)⟩
  · obtain ⟨i0, hi0e⟩ : ∃ i0, i = i0 + 1 := ⟨i - 1, by omega⟩
    have hi1 : (i : Int) - 1 = (i0 : Int) := by omega
    have hi2 : (i0 : Int) < (n : Int) := by omega
    have hi3 : (0 : Int) < (i : Int) := by omega
    have hil0 : i0 < l.length := by rw [← HN.out]; omega
    obtain ⟨g', e3, _, z0, _, _, z3, _⟩ := HTR.out.at_ hil0
    injection e3 with e3
    injection e3 with e3 _ _
    subst e3
    generalize l[i0].kind = pk at *
    generalize l[i0].name = pn at *
    clear hi0 hi0e
    by_cases hp2 : pk = 2
    · subst hp2
      by_cases hs1 : pn = scriptB
      · subst hs1
        unfold scriptB at z3
        go_wp2_with fail
        go_ret
        exact ⟨rfl, HB3.out⟩
      have n1 : ¬ pn.toList = [115, 99, 114, 105, 112, 116] := fun h => hs1 (by
        rw [Lib.toList_data] at h
        exact ByteArray.ext (Array.toList_inj.1 (h.trans rfl)))
      have n1b : (pn.toList == [115, 99, 114, 105, 112, 116]) = false := by simpa using n1
      by_cases hs2 : pn = styleB
      · subst hs2
        unfold styleB at z3
        clear hs1
        go_wp2_with fail
        go_ret
        exact ⟨rfl, HB3.out⟩
      have n2 : ¬ pn.toList = [115, 116, 121, 108, 101] := fun h => hs2 (by
        rw [Lib.toList_data] at h
        exact ByteArray.ext (Array.toList_inj.1 (h.trans rfl)))
      have n2b : (pn.toList == [115, 116, 121, 108, 101]) = false := by simpa using n2
      clear hs1 hs2
      go_wp2_with fail
      refine (HRE.out _ HB3.out).mono ?_
      rintro e w5 ⟨v, rfl, hmd, hb5⟩
      obtain ⟨A2, cap2, rfl, htr2⟩ := TR.of_made hmd
      have HB5 := hid (HB3.out.trans (hb5.mono HB3.out.size))
      have HTRa := hid (HTR.out.below hb5 (Nat.le_refl _))
      have HTR2 := hid htr2
      obtain ⟨m, hm⟩ : ∃ m, m = r.length := ⟨_, rfl⟩
      rw [← hm] at HTR2 HLR
      have HM := hid hm
      rw [← hm]
      have hni : (n : Int) - (i : Int) = (m : Int) := by have := HLR.out; omega
      have hm300 : m ≤ 300 := by have := HLR.out; omega
      clear hb5 hmd htr2 HRE hm x0 x1 hsl hmod hmod2 HTR
      go_wp2_with fail
      go_loopg [9] m (fun kx s9 wr => ∃ j : Nat, s9 = .int .i64 j ∧ j ≤ m ∧ m - j ≤ kx ∧ Hid (Below w5.heap.size w5 wr))
      case atStart => exact ⟨0, rfl, Nat.zero_le _, Nat.le_refl _, Below.refl _ _⟩
      case round =>
        obtain ⟨j, rfl, hj, hg, HBR⟩ := hrel
        by_cases hlt : j < m
        · have hlt' : (j : Int) < (m : Int) := by omega
          have hjl : j < r.length := by rw [← HM.out]; exact hlt
          obtain ⟨hij, hup⟩ := HEL.out j hjl
          obtain ⟨g1, e1, hg1, x0, x1, x2, x3, x4, x5⟩ := (HTRa.out.below HBR.out (Nat.le_refl _)).at_ hij
          injection e1 with e1
          injection e1 with e1 _ _
          subst e1
          obtain ⟨g2, rfl, hg2, y0, y1, y2, y3, y4, y5⟩ := (HTR2.out.below HBR.out (Nat.le_refl _)).at_ hjl
          rw [hup] at x0 x1 x2 x3 x4 x5
          simp only [Tk.up] at x0 x1 x2 x3 x4 x5
          have hrm := HRM.out j hjl
          generalize r[j] = t at *
          obtain ⟨tk, tf, tt, tn, tr, ts⟩ := t
          simp only at x0 x1 x2 x3 x4 x5 y0 y1 y2 y3 y4 y5 hrm
          obtain ⟨hr1, hr2⟩ := hrm
          obtain ⟨ij, hije⟩ : ∃ ij, ij = i + j := ⟨_, rfl⟩
          have hij2 : (i : Int) + (j : Int) = (ij : Int) := by omega
          have hijn : (ij : Int) < (n : Int) := by have := HLR.out; omega
          rw [← hije] at x0 x1 x2 x3 x4 x5
          have HIJ := hid hije
          clear hije hup
          go_upto_region 16 with fail
          go_region
          · have hs5 := HBR.out.size
            have hB2 := (((Below.refl wr.heap.size wr).alloc (Nat.le_refl _) (.cells #[.int .i64 tk, .int .i64 ((tf : Int) + (at_ : Int)), .int .i64 ((tt : Int) + (at_ : Int)), .string tn, .int .i32 tr, .bool ts] 30)).alloc (by simp) (.cells #[.int .i64 tk, .int .i64 tf, .int .i64 tt, .string tn, .int .i32 tr, .bool ts] 30)).drew
            have q1 := ((Blk.new wr 30 #[.int .i64 tk, .int .i64 ((tf : Int) + (at_ : Int)), .int .i64 ((tt : Int) + (at_ : Int)), .string tn, .int .i32 tr, .bool ts]).alloc (.cells #[.int .i64 tk, .int .i64 tf, .int .i64 tt, .string tn, .int .i32 tr, .bool ts] 30)).drew
            have q2 := (Blk.new (wr.alloc (.cells #[.int .i64 tk, .int .i64 ((tf : Int) + (at_ : Int)), .int .i64 ((tt : Int) + (at_ : Int)), .string tn, .int .i32 tr, .bool ts] 30)) 30 #[.int .i64 tk, .int .i64 tf, .int .i64 tt, .string tn, .int .i32 tr, .bool ts]).drew
            rw [World.size_alloc] at q2
            generalize ((wr.alloc (.cells #[.int .i64 tk, .int .i64 ((tf : Int) + (at_ : Int)), .int .i64 ((tt : Int) + (at_ : Int)), .string tn, .int .i32 tr, .bool ts] 30)).alloc (.cells #[.int .i64 tk, .int .i64 tf, .int .i64 tt, .string tn, .int .i32 tr, .bool ts] 30)).drew = W6 at *
            have u0 := q1.cell 0
            have u1 := q1.cell 1
            have u2 := q1.cell 2
            have u3 := q1.cell 3
            have u4 := q1.cell 4
            have u5 := q1.cell 5
            have v0 := q2.cell 0
            have v1 := q2.cell 1
            have v2 := q2.cell 2
            have v3 := q2.cell 3
            have v4 := q2.cell 4
            have v5 := q2.cell 5
            simp only [List.getElem?_toArray, List.getElem?_cons_zero, List.getElem?_cons_succ] at u0 u1 u2 u3 u4 u5 v0 v1 v2 v3 v4 v5
            have HB6 := hid (HBR.out.trans (hB2.mono hs5))
            clear hB2 q1 q2 x0 x1 x2 x3 x4 x5 y0 y1 y2 y3 y4 y5 hs5
            go_wp2_with fail
            go_roundg (m - (j + 1))
            case measure => omega
            case rel => exact ⟨j + 1, by go_num, by omega, Nat.le_refl _, HB6.out⟩
          · have hs5 := HBR.out.size
            have hB2 := (((Below.refl wr.heap.size wr).alloc (Nat.le_refl _) (.cells #[.int .i64 tk, .int .i64 tf, .int .i64 tt, .string tn, .int .i32 tr, .bool ts] 30)).alloc (by simp) (.cells #[.int .i64 tk, .int .i64 ((tf : Int) + (at_ : Int)), .int .i64 ((tt : Int) + (at_ : Int)), .string tn, .int .i32 tr, .bool ts] 30)).drew
            have q1 := ((Blk.new wr 30 #[.int .i64 tk, .int .i64 tf, .int .i64 tt, .string tn, .int .i32 tr, .bool ts]).alloc (.cells #[.int .i64 tk, .int .i64 ((tf : Int) + (at_ : Int)), .int .i64 ((tt : Int) + (at_ : Int)), .string tn, .int .i32 tr, .bool ts] 30)).drew
            have q2 := (Blk.new (wr.alloc (.cells #[.int .i64 tk, .int .i64 tf, .int .i64 tt, .string tn, .int .i32 tr, .bool ts] 30)) 30 #[.int .i64 tk, .int .i64 ((tf : Int) + (at_ : Int)), .int .i64 ((tt : Int) + (at_ : Int)), .string tn, .int .i32 tr, .bool ts]).drew
            rw [World.size_alloc] at q2
            generalize ((wr.alloc (.cells #[.int .i64 tk, .int .i64 tf, .int .i64 tt, .string tn, .int .i32 tr, .bool ts] 30)).alloc (.cells #[.int .i64 tk, .int .i64 ((tf : Int) + (at_ : Int)), .int .i64 ((tt : Int) + (at_ : Int)), .string tn, .int .i32 tr, .bool ts] 30)).drew = W6 at *
            have v0 := q1.cell 0
            have v1 := q1.cell 1
            have v2 := q1.cell 2
            have v3 := q1.cell 3
            have v4 := q1.cell 4
            have v5 := q1.cell 5
            have u0 := q2.cell 0
            have u1 := q2.cell 1
            have u2 := q2.cell 2
            have u3 := q2.cell 3
            have u4 := q2.cell 4
            have u5 := q2.cell 5
            simp only [List.getElem?_toArray, List.getElem?_cons_zero, List.getElem?_cons_succ] at u0 u1 u2 u3 u4 u5 v0 v1 v2 v3 v4 v5
            have HB6 := hid (HBR.out.trans (hB2.mono hs5))
            clear hB2 q1 q2 x0 x1 x2 x3 x4 x5 y0 y1 y2 y3 y4 y5 hs5
            go_wp2_with fail
            go_roundg (m - (j + 1))
            case measure => omega
            case rel => exact ⟨j + 1, by go_num, by omega, Nat.le_refl _, HB6.out⟩
        · have hlt' : ¬ (j : Int) < (m : Int) := by omega
          clear hlt hg
          go_wp2_with fail
          go_ret
          exact ⟨rfl, HB5.out.trans (HBR.out.mono HB5.out.size)⟩
    · have hp2b : (pk == 2) = false := by simpa using hp2
      clear hp2
      go_wp2_with fail
      refine (HRE.out _ HB3.out).mono ?_
      rintro e w5 ⟨v, rfl, hmd, hb5⟩
      obtain ⟨A2, cap2, rfl, htr2⟩ := TR.of_made hmd
      have HB5 := hid (HB3.out.trans (hb5.mono HB3.out.size))
      have HTRa := hid (HTR.out.below hb5 (Nat.le_refl _))
      have HTR2 := hid htr2
      obtain ⟨m, hm⟩ : ∃ m, m = r.length := ⟨_, rfl⟩
      rw [← hm] at HTR2 HLR
      have HM := hid hm
      rw [← hm]
      have hni : (n : Int) - (i : Int) = (m : Int) := by have := HLR.out; omega
      have hm300 : m ≤ 300 := by have := HLR.out; omega
      clear hb5 hmd htr2 HRE hm x0 x1 hsl hmod hmod2 HTR
      go_wp2_with fail
      go_loopg [9] m (fun kx s9 wr => ∃ j : Nat, s9 = .int .i64 j ∧ j ≤ m ∧ m - j ≤ kx ∧ Hid (Below w5.heap.size w5 wr))
      case atStart => exact ⟨0, rfl, Nat.zero_le _, Nat.le_refl _, Below.refl _ _⟩
      case round =>
        obtain ⟨j, rfl, hj, hg, HBR⟩ := hrel
        by_cases hlt : j < m
        · have hlt' : (j : Int) < (m : Int) := by omega
          have hjl : j < r.length := by rw [← HM.out]; exact hlt
          obtain ⟨hij, hup⟩ := HEL.out j hjl
          obtain ⟨g1, e1, hg1, x0, x1, x2, x3, x4, x5⟩ := (HTRa.out.below HBR.out (Nat.le_refl _)).at_ hij
          injection e1 with e1
          injection e1 with e1 _ _
          subst e1
          obtain ⟨g2, rfl, hg2, y0, y1, y2, y3, y4, y5⟩ := (HTR2.out.below HBR.out (Nat.le_refl _)).at_ hjl
          rw [hup] at x0 x1 x2 x3 x4 x5
          simp only [Tk.up] at x0 x1 x2 x3 x4 x5
          have hrm := HRM.out j hjl
          generalize r[j] = t at *
          obtain ⟨tk, tf, tt, tn, tr, ts⟩ := t
          simp only at x0 x1 x2 x3 x4 x5 y0 y1 y2 y3 y4 y5 hrm
          obtain ⟨hr1, hr2⟩ := hrm
          obtain ⟨ij, hije⟩ : ∃ ij, ij = i + j := ⟨_, rfl⟩
          have hij2 : (i : Int) + (j : Int) = (ij : Int) := by omega
          have hijn : (ij : Int) < (n : Int) := by have := HLR.out; omega
          rw [← hije] at x0 x1 x2 x3 x4 x5
          have HIJ := hid hije
          clear hije hup
          go_upto_region 16 with fail
          go_region
          · have hs5 := HBR.out.size
            have hB2 := (((Below.refl wr.heap.size wr).alloc (Nat.le_refl _) (.cells #[.int .i64 tk, .int .i64 ((tf : Int) + (at_ : Int)), .int .i64 ((tt : Int) + (at_ : Int)), .string tn, .int .i32 tr, .bool ts] 30)).alloc (by simp) (.cells #[.int .i64 tk, .int .i64 tf, .int .i64 tt, .string tn, .int .i32 tr, .bool ts] 30)).drew
            have q1 := ((Blk.new wr 30 #[.int .i64 tk, .int .i64 ((tf : Int) + (at_ : Int)), .int .i64 ((tt : Int) + (at_ : Int)), .string tn, .int .i32 tr, .bool ts]).alloc (.cells #[.int .i64 tk, .int .i64 tf, .int .i64 tt, .string tn, .int .i32 tr, .bool ts] 30)).drew
            have q2 := (Blk.new (wr.alloc (.cells #[.int .i64 tk, .int .i64 ((tf : Int) + (at_ : Int)), .int .i64 ((tt : Int) + (at_ : Int)), .string tn, .int .i32 tr, .bool ts] 30)) 30 #[.int .i64 tk, .int .i64 tf, .int .i64 tt, .string tn, .int .i32 tr, .bool ts]).drew
            rw [World.size_alloc] at q2
            generalize ((wr.alloc (.cells #[.int .i64 tk, .int .i64 ((tf : Int) + (at_ : Int)), .int .i64 ((tt : Int) + (at_ : Int)), .string tn, .int .i32 tr, .bool ts] 30)).alloc (.cells #[.int .i64 tk, .int .i64 tf, .int .i64 tt, .string tn, .int .i32 tr, .bool ts] 30)).drew = W6 at *
            have u0 := q1.cell 0
            have u1 := q1.cell 1
            have u2 := q1.cell 2
            have u3 := q1.cell 3
            have u4 := q1.cell 4
            have u5 := q1.cell 5
            have v0 := q2.cell 0
            have v1 := q2.cell 1
            have v2 := q2.cell 2
            have v3 := q2.cell 3
            have v4 := q2.cell 4
            have v5 := q2.cell 5
            simp only [List.getElem?_toArray, List.getElem?_cons_zero, List.getElem?_cons_succ] at u0 u1 u2 u3 u4 u5 v0 v1 v2 v3 v4 v5
            have HB6 := hid (HBR.out.trans (hB2.mono hs5))
            clear hB2 q1 q2 x0 x1 x2 x3 x4 x5 y0 y1 y2 y3 y4 y5 hs5
            go_wp2_with fail
            go_roundg (m - (j + 1))
            case measure => omega
            case rel => exact ⟨j + 1, by go_num, by omega, Nat.le_refl _, HB6.out⟩
          · have hs5 := HBR.out.size
            have hB2 := (((Below.refl wr.heap.size wr).alloc (Nat.le_refl _) (.cells #[.int .i64 tk, .int .i64 tf, .int .i64 tt, .string tn, .int .i32 tr, .bool ts] 30)).alloc (by simp) (.cells #[.int .i64 tk, .int .i64 ((tf : Int) + (at_ : Int)), .int .i64 ((tt : Int) + (at_ : Int)), .string tn, .int .i32 tr, .bool ts] 30)).drew
            have q1 := ((Blk.new wr 30 #[.int .i64 tk, .int .i64 tf, .int .i64 tt, .string tn, .int .i32 tr, .bool ts]).alloc (.cells #[.int .i64 tk, .int .i64 ((tf : Int) + (at_ : Int)), .int .i64 ((tt : Int) + (at_ : Int)), .string tn, .int .i32 tr, .bool ts] 30)).drew
            have q2 := (Blk.new (wr.alloc (.cells #[.int .i64 tk, .int .i64 tf, .int .i64 tt, .string tn, .int .i32 tr, .bool ts] 30)) 30 #[.int .i64 tk, .int .i64 ((tf : Int) + (at_ : Int)), .int .i64 ((tt : Int) + (at_ : Int)), .string tn, .int .i32 tr, .bool ts]).drew
            rw [World.size_alloc] at q2
            generalize ((wr.alloc (.cells #[.int .i64 tk, .int .i64 tf, .int .i64 tt, .string tn, .int .i32 tr, .bool ts] 30)).alloc (.cells #[.int .i64 tk, .int .i64 ((tf : Int) + (at_ : Int)), .int .i64 ((tt : Int) + (at_ : Int)), .string tn, .int .i32 tr, .bool ts] 30)).drew = W6 at *
            have v0 := q1.cell 0
            have v1 := q1.cell 1
            have v2 := q1.cell 2
            have v3 := q1.cell 3
            have v4 := q1.cell 4
            have v5 := q1.cell 5
            have u0 := q2.cell 0
            have u1 := q2.cell 1
            have u2 := q2.cell 2
            have u3 := q2.cell 3
            have u4 := q2.cell 4
            have u5 := q2.cell 5
            simp only [List.getElem?_toArray, List.getElem?_cons_zero, List.getElem?_cons_succ] at u0 u1 u2 u3 u4 u5 v0 v1 v2 v3 v4 v5
            have HB6 := hid (HBR.out.trans (hB2.mono hs5))
            clear hB2 q1 q2 x0 x1 x2 x3 x4 x5 y0 y1 y2 y3 y4 y5 hs5
            go_wp2_with fail
            go_roundg (m - (j + 1))
            case measure => omega
            case rel => exact ⟨j + 1, by go_num, by omega, Nat.le_refl _, HB6.out⟩
        · have hlt' : ¬ (j : Int) < (m : Int) := by omega
          clear hlt hg
          go_wp2_with fail
          go_ret
          exact ⟨rfl, HB5.out.trans (HBR.out.mono HB5.out.size)⟩
end Go.Proofs.YtaklajbifkljjaaGreatDoor.tokenParts
