/- Chapter 17: the numbers of a control sequence: the walk. -/
import Derived.Test.YtlopigkaibkblaaDoorAnD
import Derived.Lib.SplitLaws
namespace Go.Proofs.YtlopigkaibkblaaDoor
open Go.RowKit
open Go.Lib (hid)
set_option linter.unusedVariables false

def semiB : ByteArray := ⟨#[59]⟩
noncomputable def numsL : List ByteArray → Option (List Int)
  | [] => some []
  | s :: r => match numB s with
    | none => none
    | some v => (numsL r).map (v :: ·)
def piecesB (x : ByteArray) : List ByteArray := Lib.splitB semiB 0 (Lib.countB x semiB) x
theorem splitB_small (sep : ByteArray) (h1 : 1 ≤ sep.size) : ∀ (k : Nat) (s : ByteArray), ∀ p ∈ Lib.splitB sep 0 k s, p.size ≤ s.size
  | 0, s, p, hp => by rw [Lib.splitB_zero] at hp; rw [List.mem_singleton.1 hp]; exact Nat.le_refl _
  | k + 1, s, p, hp => by
    rcases Lib.indexB_cases s sep with hix | ⟨i, hix, _⟩
    · rw [Lib.splitB_miss sep 0 (k + 1) s hix] at hp
      rw [List.mem_singleton.1 hp]; exact Nat.le_refl _
    · rw [Lib.splitB_hit sep 0 k s i hix] at hp
      rcases List.mem_cons.1 hp with h | h
      · rw [h, ByteArray.size_extract]; omega
      · have := splitB_small sep h1 k _ p h
        rw [ByteArray.size_extract] at this
        omega
theorem pieces_len (x : ByteArray) : (piecesB x).length = Lib.countB x semiB + 1 := Lib.splitB_all semiB (by decide) 0 _ x rfl
theorem pieces_count (x : ByteArray) : Lib.countB x semiB ≤ x.size := Lib.countB_le semiB (by decide) x.size x (Nat.le_refl _)
theorem pieces_small (x : ByteArray) : ∀ p ∈ piecesB x, p.size ≤ x.size := splitB_small semiB (by decide) _ x
theorem numsL_none {ps : List ByteArray} {j : Nat} (h : j < ps.length) (hn : numB ps[j] = none) : numsL (ps.drop j) = none := by
  rw [List.drop_eq_getElem_cons h, numsL, hn]
theorem numsL_some {ps : List ByteArray} {j : Nat} (h : j < ps.length) {v : Int} (hn : numB ps[j] = some v) : numsL (ps.drop j) = (numsL (ps.drop (j + 1))).map (v :: ·) := by
  rw [List.drop_eq_getElem_cons h, numsL, hn]
/-- The numbers of the control sequence that begins these bytes. -/
noncomputable def headN (t : ByteArray) : Option (List Int) :=
  if (seqE t).whole = false ∨ seqK t < seqN t then none else numsL (piecesB (t.extract 2 (seqK t)))
noncomputable def numsV (s : ByteArray) (i : Int) : Option (List Int) :=
  if (0 ≤ i ∧ i < s.size ∧ byt s i.toNat = 27) ∧ i + 1 < s.size ∧ byt s (i + 1).toNat = 91 then headN (s.extract i.toNat s.size) else none
def intCells (l : List Int) : List Value := l.map (.int .i64)
theorem intCells_snoc (l : List Int) (v : Int) : intCells (l ++ [v]) = intCells l ++ [.int .i64 v] := by simp [intCells]
theorem info_int : (Tryd.prog.info? 3).map (fun i => (i.zero, i.size, i.bytes)) = some (some (.int .i64 0), 1, 8) := by kernel_rfl
theorem reads_blk1 {w : World} {q : Nat} {t : TypeId} {x : Value} (h : Blk w q t #[x]) : Reads w w.heap.size 1 (some ⟨q, 0, none⟩) 1 [x] := by
  refine ⟨rfl, fun _ => ⟨_, rfl, h.lt, fun j u hu => ?_⟩⟩
  have e : (Addr.add ⟨q, 0, none⟩ j) = ⟨q, j, none⟩ := by unfold Addr.add; split <;> simp_all
  rw [e, h.cell j]
  simpa using hu

set_option maxRecDepth 100000 in
set_option maxHeartbeats 8000000 in
/-- What follows the look at the beginning: from a sequence that begins the bytes. -/
theorem nums_any (a : Option Addr) (n cap : Nat) (i : Int) (s : ByteArray) (m : Int) (te : TypeId) (pe : Value) (w : World) (hb : BA w a n cap s) (hm : n ≤ 1048576) (hi63 : i ≤ 9223372036854775807)
    (hml : w.cell? ⟨0, 0, none⟩ = some (.int .i64 m)) (hev : w.cell? ⟨Tryd.laysC172_ren.g 15, 0, none⟩ = some (.iface te pe)) :
    Calls Tryd.prog 11 #[.slice a n cap, .int .i64 i] w fun e w' =>
      ∃ v, e = .returned (.tuple #[v, .bool (numsV s i).isSome]) ∧ Below w.heap.size w w' ∧ w'.ownsRow w.heap.size 3 1 v ((numsV s i).getD []).length (intCells ((numsV s i).getD [])) := by
  have h0l := World.block_lt_of_cell? _ _ hml
  have hgl := World.block_lt_of_cell? _ _ hev
  have hbeg := begins_any a n cap i s w hb (by omega)
  have hn := hb.1
  have HBA := hid hb
  have HML := hid hml
  have HEV := hid hev
  clear hml hev hb
  by_cases hbe : 0 ≤ i ∧ i < (n : Int) ∧ byt s i.toNat = 27
  · rw [show decide (0 ≤ i ∧ i < (n : Int) ∧ byt s i.toNat = 27) = true from decide_eq_true hbe] at hbeg
    have HBEG := hid hbeg
    clear hbeg
    obtain ⟨h0, h1, h27⟩ := hbe
    obtain ⟨k, rfl⟩ : ∃ k : Nat, i = k := ⟨i.toNat, by omega⟩
    rw [show ((k : Int)).toNat = k from rfl] at h27
    have hkn : k < n := by omega
    have hk1 : (k : Int) + 1 ≤ 9223372036854775807 := by omega
    by_cases hk2 : k + 1 < n
    · have hk2' : ¬ (n : Int) ≤ (k : Int) + 1 := by omega
      have hk2n : ¬ n ≤ k + 1 := by omega
      have hk20 : 0 ≤ (k : Int) + 1 := by omega
      have hk21 : (k : Int) + 1 < (n : Int) := by omega
      obtain ⟨b, off, rfl, hbl, hz⟩ := HBA.out.2.2.2 (by omega)
      have hcap := HBA.out.2.1
      have h63 := HBA.out.2.2.1
      have hc1 := bytes_cell hz (i := k + 1) (by omega)
      have htn : ((k : Int) + 1).toNat = k + 1 := by omega
      by_cases h91 : byt s (k + 1) = 91
      · have hdef : numsV s k = headN (s.extract k s.size) := by
          unfold numsV
          rw [if_pos ⟨⟨h0, by omega, h27⟩, by omega, by rw [htn]; exact h91⟩]
          rfl
        rw [h91] at hc1
        have hsl := fun W => slice_tail b off n cap k (by omega) hcap W
        simp only [show offIf cap k off = off + k by unfold offIf; rw [if_neg (by omega)]] at hsl
        have hz1 : Lib.Bytes w b (off + k) (s.extract k s.size) := by
          apply bytes_of_byt
          intro j hj
          have := bytes_tail hn hcap hz j (i := k) (by rw [ByteArray.size_extract] at hj; omega)
          rwa [show offIf cap k off = off + k by unfold offIf; rw [if_neg (by omega)]] at this
        have hts : n - k = (s.extract k s.size).size := by rw [ByteArray.size_extract]; omega
        have hsq := sequence_any b (off + k) (n - k) (cap - k) (s.extract k s.size) hts (by omega) (by omega) (by omega) (by omega) w hbl hz1
        generalize s.extract k s.size = t at *
        have hkle := passTo_le (amongB 48 63) t (i := 2) (by omega)
        have hk2le := passTo_ge (amongB 48 63) t 2
        have hkn2 : seqK t = passTo (amongB 48 63) t 2 := rfl
        rw [← hkn2] at hkle hk2le
        have HSQ := hid hsq
        have HDEF := hid hdef
        have HZ1 := hid hz1
        have HTS := hid hts
        have hhd : headN t = if (seqE t).whole = false ∨ seqK t < seqN t then none else numsL (piecesB (t.extract 2 (seqK t))) := rfl
        have hwh : (seqE t).whole = true → seqN t < t.size := by
          unfold seqE
          split
          · rename_i h; exact fun _ => h.1
          · intro h; cases h
        have hkN : seqK t ≤ seqN t := passTo_ge (amongB 32 47) t (seqK t)
        have HWH := hid hwh
        clear hwh
        generalize seqE t = q at *
        generalize seqK t = K at *
        generalize seqN t = N at *
        have HHD := hid hhd
        have hKn : K ≤ n - k := by omega
        obtain ⟨qs, qw, qo, ql⟩ := q
        simp only [Es.val] at HSQ
        obtain ⟨k1, hk1e⟩ : ∃ k1, k1 = k + 1 := ⟨_, rfl⟩
        rw [← hk1e] at hc1
        have hke : (k : Int) + 1 = (k1 : Int) := by omega
        have hk1n : (k1 : Int) < (n : Int) := by omega
        have hk1m : ¬ (n : Int) ≤ (k1 : Int) := by omega
        have hk1b : ¬ n ≤ k1 := by omega
        have hk163 : (k1 : Int) ≤ 9223372036854775807 := by omega
        have HK1 := hid hk1e
        clear hk1e
        clear hsq hdef hz1 hts hhd hn h27 h91 hz htn hkle hkn2 HBA
        clear hk2' hk2n hk20 hk21 hk1
        go_enter Tryd.func11, Tryd.ntmps11
        go_wp2_with fail
        refine HBEG.out.mono ?_
        rintro e w2 ⟨rfl, hw⟩
        obtain rfl : w = w2 := hw.symm
        go_wp2_with fail
        refine HSQ.out.mono ?_
        rintro e w2 ⟨rfl, hb2⟩
        have hb3 := (Below.refl w2.heap.size w2).alloc (Nat.le_refl _) (.cells #[.int .i64 qs, .bool qw, .bool qo, .int .u8 ql] 25)
        have hq3 := Blk.new w2 25 #[.int .i64 qs, .bool qw, .bool qo, .int .u8 ql]
        have HB3 := hid (hb2.trans (hb3.mono hb2.size))
        go_upto_region 5 with fail
        generalize w2.alloc (.cells #[.int .i64 qs, .bool qw, .bool qo, .int .u8 ql] 25) = w3 at *
        have q1 := hq3.cell 1
        simp only [List.getElem?_toArray, List.getElem?_cons_zero, List.getElem?_cons_succ] at q1
        clear hb2 hb3 hq3
        cases qw
        · have HE := hid (show numsV s k = none by rw [HDEF.out, HHD.out, if_pos (.inl rfl)])
          clear HDEF HHD
          go_wp2_with fail
          go_ret2
          rw [HE.out]
          exact ⟨_, rfl, HB3.out, rfl, .inl ⟨rfl, rfl⟩⟩
        · by_cases hNK : K < N
          · have hNK' : (K : Int) < (N : Int) := by omega
            have HE := hid (show numsV s k = none by rw [HDEF.out, HHD.out, if_pos (.inr hNK)])
            clear HDEF HHD
            go_wp2_with fail
            go_ret2
            rw [HE.out]
            exact ⟨_, rfl, HB3.out, rfl, .inl ⟨rfl, rfl⟩⟩
          · have hNK' : ¬ (K : Int) < (N : Int) := by omega
            have hn3 : 2 < n - k := by have := HWH.out rfl; have := HTS.out; omega
            have hE1 : numsV s k = numsL (piecesB (t.extract 2 K)) := by rw [HDEF.out, HHD.out, if_neg (fun h => h.elim (fun h => by cases h) hNK)]
            have hsl2 : ∀ W, (Instr.slice 22 (.slice (some ⟨b, off + k, none⟩) (n - k) (cap - k)) (some (.int .i64 2)) (some (.int .i64 K)) none).run Tryd.prog W = .ok (.slice (some ⟨b, off + k + 2, none⟩) (K - 2) (cap - k - 2)) W := fun W => slice_row b (off + k) (n - k) (cap - k) 2 K (by omega) (by omega) (by omega) W
            have hcv : (convert 22 9 (.slice (some ⟨b, off + k + 2, none⟩) (K - 2) (cap - k - 2))).run Tryd.prog w3 = .ok (.string (t.extract 2 (2 + (K - 2)))) w3 :=
              Lib.run_convert_window (P := Tryd.prog) w3 22 5 9 Tryd.underlying22 Tryd.underlying5 Tryd.underlying9 b (off + k) t (Bytes.keepAt HZ1.out fun j => World.cell?_of_block (HB3.out.block b hbl)) 2 (K - 2) (cap - k - 2) (by have := HTS.out; omega)
            rw [show 2 + (K - 2) = K by omega] at hcv
            have hxs : (t.extract 2 K).size ≤ 1048576 := by rw [ByteArray.size_extract]; have := HTS.out; omega
            have hpl := pieces_len (t.extract 2 K)
            have hpc := pieces_count (t.extract 2 K)
            have hpz := pieces_small (t.extract 2 K)
            have hm3 : w3.cell? ⟨0, 0, none⟩ = some (.int .i64 m) := (HB3.out.cell (p := ⟨0, 0, none⟩) h0l).trans HML.out
            have hspl : Calls Tryd.prog 21 #[.string (t.extract 2 K), .string semiB] w3 fun e w' => e = .returned (.slice (some ⟨w3.heap.size, 0, none⟩) (Lib.countB (t.extract 2 K) semiB + 1) (Lib.countB (t.extract 2 K) semiB + 1)) ∧ w' = w3.alloc (.cells ((piecesB (t.extract 2 K)).map Value.string).toArray 9) :=
              Go.Proofs.Any.strings_Split { Tryd.laysM146 with } Tryd.laysM146.i9 (t.extract 2 K) semiB m w3 (by omega) hm3 (by decide)
            unfold semiB at hspl
            generalize piecesB (t.extract 2 K) = ps at *
            generalize t.extract 2 K = x at *
            have hc59 : Lib.countB x semiB = Lib.countB x ⟨#[59]⟩ := rfl
            rw [hc59] at hpl hpc
            generalize Lib.countB x ⟨#[59]⟩ = C at *
            have HSP := hid hspl
            have HPL := hid hpl
            have HPZ := hid hpz
            have HE1 := hid hE1
            have HXS := hid hxs
            have hCb : C ≤ 1048576 := by omega
            have hb4 := HB3.out.alloc HB3.out.size (.cells (ps.map Value.string).toArray 9)
            have hr4 := Blk.new w3 9 (ps.map Value.string).toArray
            have HB4 := hid hb4
            have HR4 := hid hr4
            clear hspl hpl hpz hpc hE1 hb4 hr4 hm3 HDEF HHD hc59 hxs hKn
            go_wp2_with fail
            refine HSP.out.mono ?_
            rintro e w4 ⟨rfl, hw4⟩
            rw [← hw4] at HB4 HR4
            have hz4 : w3.heap.size < w4.heap.size := HR4.out.lt
            clear hw4 HSP hcv hsl hsl2 q1
            go_wp2_with fail
            obtain ⟨i0, hi0, hz0, hz1, hz2⟩ := info_parts info_int
            have HX4 := hid (HB4.out)
            go_loopg [9, 56] (C + 1) (fun kx s9 s56 wr => ∃ (j : Nat) (v : Value) (acc : List Int), s9 = v ∧ s56 = .int .i64 j ∧ j ≤ C + 1 ∧ C + 1 - j ≤ kx ∧ Hid (acc.length = j) ∧ Hid (numsL ps = (numsL (ps.drop j)).map (acc ++ ·)) ∧ Hid (wr.ownsRow w4.heap.size 3 1 v j (intCells acc)) ∧ Hid (Below w4.heap.size w4 wr))
            case atStart => exact ⟨0, .slice none 0 0, [], rfl, rfl, Nat.zero_le _, by omega, rfl, by show _ = _; simp, ⟨rfl, .inl ⟨rfl, rfl⟩⟩, Below.refl _ _⟩
            case round =>
              obtain ⟨j, v, acc, rfl, rfl, hj, hg, HJ, HNL, HOWN, HBW⟩ := hrel
              by_cases hlt : j < C + 1
              · have hlt' : (j : Int) < (C : Int) + 1 := by omega
                have hjl : j < ps.length := by have := HPL.out; omega
                have hcell : w4.cell? ⟨w3.heap.size, j, none⟩ = some (.string ps[j]) := by
                  rw [HR4.out.cell j]
                  simp [List.getElem?_eq_getElem hjl]
                have hpz := HPZ.out ps[j] (List.getElem_mem hjl)
                have hcell' := (HBW.out.cell (p := ⟨w3.heap.size, j, none⟩) hz4).trans hcell
                have hnn := numsL_none hjl
                have hns := fun v (h : numB ps[j] = some v) => numsL_some hjl (v := v) h
                have hevr : wr.cell? ⟨Tryd.laysC172_ren.g 15, 0, none⟩ = some (.iface te pe) := ((HB4.out.trans (HBW.out.mono HB4.out.size)).cell (p := ⟨Tryd.laysC172_ren.g 15, 0, none⟩) hgl).trans HEV.out
                have hnum := number_any ps[j] (by have := HXS.out; omega) te pe wr hevr
                have hji : (j : Int) + 1 ≤ 9223372036854775807 := by omega
                generalize ps[j] = p at *
                cases hnb : numB p with
                | none =>
                  have HE := hid (show numsV s k = none by rw [HE1.out, HNL.out, hnn hnb]; rfl)
                  rw [hnb] at hnum
                  have HNUM := hid hnum
                  clear hnum hnn hns hnb hcell hevr
                  go_wp2_with fail
                  refine HNUM.out.mono ?_
                  rintro e w5 ⟨rfl, hb5⟩
                  simp only [Option.getD_none, Option.isSome_none]
                  go_wp2_with fail
                  go_ret2
                  rw [HE.out]
                  exact ⟨_, rfl, HB4.out.trans ((HBW.out.trans (hb5.mono HBW.out.size)).mono HB4.out.size), rfl, .inl ⟨rfl, rfl⟩⟩
                | some z =>
                  have HS := hid (HNL.out.trans (congrArg (Option.map (acc ++ ·)) (hns z hnb)))
                  rw [hnb] at hnum
                  have HNUM := hid hnum
                  clear hnum hnn hns hnb hcell hevr
                  go_wp2_with fail
                  refine HNUM.out.mono ?_
                  rintro e w5 ⟨rfl, hb5⟩
                  simp only [Option.getD_some, Option.isSome_some]
                  have HB5 := hid (HBW.out.trans (hb5.mono HBW.out.size))
                  have hown5 := own_kept HOWN.out (grown_of_below hb5 none) fun _ _ e => by cases e
                  obtain ⟨A0, cp0, rfl⟩ := owns_slice hown5
                  have HOWN5 := hid hown5
                  clear hown5 hb5
                  go_wp2_with (at_builtin; go_must (refine wpList_append_any _ rfl (.tmp 67) (.tmp 69) 29 rfl w4.heap.size 3 i0 (.int .i64 0) 1 8 Tryd.underlying29 hi0 hz0 hz1 hz2 rfl (by decide) _ j (intCells acc) rfl (HOWN5.out.alloc _) _ (some ⟨w5.heap.size, 0, none⟩) 1 1 [.int .i64 z] rfl (reads_blk1 (Blk.new w5 _ _)) (by simp [Value.oneCell']) (by unfold maxLen; omega) (by omega) (by have := HB5.out.size; simp; omega) ?_); intro v' w6 ho6 hg6 hl6; have hb6 := (HB5.out.alloc HB5.out.size _).grown hg6 (by have := HB5.out.size; simp; omega) (own_ge HOWN5.out); have HO6 := hid ho6; have HB6 := hid hb6; clear ho6 hg6 hl6 hb6)
                  go_roundg (C + 1 - (j + 1))
                  case measure => omega
                  case rel =>
                    refine ⟨j + 1, _, acc ++ [z], rfl, rfl, by omega, Nat.le_refl _, ?_, ?_, ?_, HB6⟩
                    · show _ = _
                      rw [List.length_append, HJ.out]
                      rfl
                    · show _ = _
                      rw [HS.out, Option.map_map]
                      congr 1
                      funext r
                      simp
                    · show World.ownsRow _ _ _ _ _ _ _
                      rw [intCells_snoc]
                      exact HO6.out
              · have hlt' : ¬ (j : Int) < (C : Int) + 1 := by omega
                have hend : ps.drop j = [] := List.drop_eq_nil_of_le (by have := HPL.out; omega)
                have HE := hid (show numsV s k = some acc by rw [HE1.out, HNL.out, hend]; simp [numsL])
                have hown := HOWN.out
                rw [← HJ.out] at hown
                have HOWN2 := hid hown
                clear hend hown
                go_wp2_with fail
                go_ret2
                rw [HE.out]
                exact ⟨_, rfl, HB4.out.trans (HBW.out.mono HB4.out.size), owns_base HOWN2.out HB4.out.size⟩
      · have b91 : (byt s (k + 1) != 91) = true := by simpa using h91
        have HE := hid (show numsV s k = none by unfold numsV; exact if_neg fun h => h91 (by have := h.2.2; rwa [htn] at this))
        obtain ⟨k1, hk1e⟩ : ∃ k1, k1 = k + 1 := ⟨_, rfl⟩
        rw [← hk1e] at hc1 b91
        have hke : (k : Int) + 1 = (k1 : Int) := by omega
        have hk1n : (k1 : Int) < (n : Int) := by omega
        have hk1m : ¬ (n : Int) ≤ (k1 : Int) := by omega
        have hk1b : ¬ n ≤ k1 := by omega
        have hk163 : (k1 : Int) ≤ 9223372036854775807 := by omega
        generalize byt s k1 = c at *
        clear hk1e hn h27 h91 hz htn hk2' hk2n hk20 hk21 hk1 HBA
        go_enter Tryd.func11, Tryd.ntmps11
        go_wp2_with fail
        refine HBEG.out.mono ?_
        rintro e w2 ⟨rfl, hw⟩
        obtain rfl : w = w2 := hw.symm
        go_wp2_with fail
        go_ret2
        rw [HE.out]
        exact ⟨_, rfl, Below.refl _ _, rfl, .inl ⟨rfl, rfl⟩⟩
    · have HE := hid (show numsV s k = none by unfold numsV; exact if_neg fun h => by have := h.2.1; omega)
      have hk2' : (n : Int) ≤ (k : Int) + 1 := by omega
      have hk2n : n ≤ k + 1 := by omega
      clear hn h27 HBA
      go_enter Tryd.func11, Tryd.ntmps11
      go_wp2_with fail
      refine HBEG.out.mono ?_
      rintro e w2 ⟨rfl, hw⟩
      obtain rfl : w = w2 := hw.symm
      go_wp2_with fail
      go_ret2
      rw [HE.out]
      exact ⟨_, rfl, Below.refl _ _, rfl, .inl ⟨rfl, rfl⟩⟩
  · rw [show decide (0 ≤ i ∧ i < (n : Int) ∧ byt s i.toNat = 27) = false from decide_eq_false hbe] at hbeg
    have HE := hid (show numsV s i = none by unfold numsV; exact if_neg fun h => hbe ⟨h.1.1, by have := h.1.2.1; omega, h.1.2.2⟩)
    have HBEG := hid hbeg
    clear hbeg hbe hn HBA
    go_enter Tryd.func11, Tryd.ntmps11
    go_wp2_with fail
    refine HBEG.out.mono ?_
    rintro e w2 ⟨rfl, hw⟩
    obtain rfl : w = w2 := hw.symm
    go_wp2_with fail
    go_ret2
    rw [HE.out]
    exact ⟨_, rfl, Below.refl _ _, rfl, .inl ⟨rfl, rfl⟩⟩
end Go.Proofs.YtlopigkaibkblaaDoor
