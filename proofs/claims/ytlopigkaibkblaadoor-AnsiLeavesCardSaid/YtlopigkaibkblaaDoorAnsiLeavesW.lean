/- The walk of the law AnsiLeaves. -/
import Derived.Test.YtlopigkaibkblaaDoorAnAwake
import Derived.Test.YtlopigkaibkblaaDoorAnT
import Derived.Test.YtlopigkaibkblaaDoorAnV2
import Derived.Deep.RegionWith
import Derived.BigRegion
namespace Go.Proofs.YtlopigkaibkblaaDoor.ansiLeaves
open Go.RowKit
open Go.Lib (hid)
set_option linter.unusedVariables false

/-- A row of runes that came in. -/
def RA (w : World) (a : Option Addr) (n : Nat) (l : List Int) : Prop := n = l.length ∧ (0 < n → ∃ b off, a = some ⟨b, off, none⟩ ∧ b < w.heap.size ∧ ∀ i, i < n → w.cell? ⟨b, off + i, none⟩ = some (.int .i32 (l.getD i 0)))
theorem RA.below {w w' : World} {a : Option Addr} {n B : Nat} {l : List Int} (h : RA w a n l) (hb : Below B w w') (hB : w.heap.size ≤ B) : RA w' a n l :=
  ⟨h.1, fun hn => by
    obtain ⟨b, off, e, hbl, hz⟩ := h.2 hn
    exact ⟨b, off, e, Nat.lt_of_lt_of_le hbl hb.size, fun i hi => (World.cell?_of_block (hb.block b (by omega))).trans (hz i hi)⟩⟩
theorem ra_of {w : World} {a : Option Addr} {len cap : Nat} {zs : List Int} (h : IsRow .i32 w a len cap zs) : ∃ l : List Int, RA w a len l := by
  rcases h with ⟨rfl, rfl, rfl, rfl⟩ | ⟨x, rfl, hl, hm, hz, hcell, hwz⟩
  · exact ⟨[], rfl, fun h => absurd h (by decide)⟩
  · have hlen : (zs.take len).length = len := by rw [List.length_take]; omega
    refine ⟨zs.take len, hlen.symm, fun h0 => ?_⟩
    obtain ⟨b, off, spot⟩ := x
    have hc := hcell 0 (by omega)
    have hspot : spot = none := by simpa [Addr.add] using World.cell?_spot hc
    subst hspot
    refine ⟨b, off, rfl, World.block_lt_of_cell? _ _ hc, ?_⟩
    intro i hi
    have h1 := hcell i (by omega)
    rw [show (Addr.add ⟨b, off, none⟩ i) = ⟨b, off + i, none⟩ by unfold Addr.add; split <;> simp_all] at h1
    rw [h1]
    congr 2
    simp [List.getD_eq_getElem?_getD, hi]
theorem conv_nil (W : World) : (convert 22 9 (.slice none 0 0)).run Tryd.prog W = .ok (.string ⟨#[]⟩) W := by kernel_rfl
theorem conv_own {W : World} {B n : Nat} {v : Value} {t : ByteArray} (h : W.ownsRow B 5 1 v n (u8s t)) (W' : World) (hb : Below W.heap.size W W') : (convert 22 9 v).run Tryd.prog W' = .ok (.string t) W' := by
  have hl := h.1
  rw [u8s_len, Nat.mul_one] at hl
  rcases h.2 with ⟨rfl, h0⟩ | ⟨g, cap, cur, rfl, hg, hh, h1, h2, h3, h4⟩
  · have : t = ⟨#[]⟩ := by
      apply ext_byt (by show t.size = 0; omega)
      intro i hi
      omega
    rw [this]
    exact conv_nil W'
  · have hgl : g < W.heap.size := by
      rcases Nat.lt_or_ge g W.heap.size with h | h
      · exact h
      · rw [Array.getElem?_eq_none h] at hh; cases hh
    have hz : Lib.Bytes W' g 0 t := by
      apply bytes_of_byt
      intro i hi
      rw [Nat.zero_add]
      refine (hb.cell (p := ⟨g, i, none⟩) hgl).trans ?_
      have hgt := u8s_get t i hi
      rw [← h4] at hgt
      have hi2 : cur[i]? = some (.int .u8 (byt t i)) := by
        have := List.getElem?_take (l := cur.toList) (i := n * 1) (j := i)
        rw [if_pos (by omega)] at this
        rw [this] at hgt
        simpa using hgt
      simp [World.cell?, hh, hi2]
    have := Lib.run_convert_window (P := Tryd.prog) W' 22 5 9 Tryd.underlying22 Tryd.underlying5 Tryd.underlying9 g 0 t hz 0 n cap (by omega)
    rw [Nat.zero_add] at this
    rw [this, Nat.zero_add, ← hl, ext_whole]
theorem write_size (last : Int) (n : Int) : (writeB last [n]).size ≤ 9 := by
  by_cases h : RightW last [n]
  · rw [writeB_right h, writ_size]
    have := (joinI_byt [n] h.2).2
    simp only [List.length_cons, List.length_nil] at this
    omega
  · rw [writeB_wrong h]; exact Nat.zero_le _

set_option maxRecDepth 100000 in
set_option maxHeartbeats 8000000 in
theorem walk (a : Option Addr) (aLen aCap : Nat) (aD : List Int) (last : Int) (n : Int) (w : World) (w0 : IsRow .i32 w a aLen aCap aD) (w1 : (Lit.int .u8 last).wf = true) (w2 : (Lit.int .u16 n).wf = true) (hsh : w.ShapedOpen Tryd.prog)
    (pe : Value) (hev : w.cell? ⟨Tryd.laysC172_ren.g 15, 0, none⟩ = some (.iface 120 pe)) (htab : Tab w) :
    Calls Tryd.prog 7 #[.slice a aLen aCap, .int .u8 last, .int .u16 n] w fun e w' => e = .returned (.bool true) ∧ Below w.heap.size w w' := by
  obtain ⟨m, hml⟩ := Tryd.laysM146.s1_3 w hsh
  have hml : w.cell? ⟨0, 0, none⟩ = some (.int .i64 m) := hml
  obtain ⟨l, hra⟩ := ra_of w0
  have hl0 : 0 ≤ last ∧ last ≤ 255 := by
    simp only [Lit.wf, IntKind.min, IntKind.max, IntKind.signed, IntKind.bits, Bool.and_eq_true] at w1
    simp at w1
    omega
  have hn0 : 0 ≤ n ∧ n ≤ 65535 := by
    simp only [Lit.wf, IntKind.min, IntKind.max, IntKind.signed, IntKind.bits, Bool.and_eq_true] at w2
    simp at w2
    omega
  have haw := awake_any m _ pe w hml hev
  have HAW := hid haw
  have HTAB := hid htab
  have HL0 := hid hl0
  have HRA := hid hra
  clear w0 w1 w2 hsh hml hev haw htab hl0 hra
  obtain ⟨hn1, hn2⟩ := hn0
  by_cases hbig : 40 < aLen
  · have hbig' : (40 : Int) < (aLen : Int) := by omega
    go_enter Tryd.func7, Tryd.ntmps7
    go_wp2_with fail
    refine HAW.out.mono ?_
    rintro e w3 ⟨rfl, hb3⟩
    go_wp2_with fail
    go_ret
    exact ⟨rfl, hb3⟩
  have hbig' : ¬ (40 : Int) < (aLen : Int) := by omega
  go_enter Tryd.func7, Tryd.ntmps7
  go_wp2_with fail
  refine HAW.out.mono ?_
  rintro e w3 ⟨rfl, hb3⟩
  have HB3 := hid hb3
  clear HAW
  have HRA3 := hid (HRA.out.below hb3 (Nat.le_refl _))
  have HTAB3 := hid (HTAB.out.below hb3 (Nat.le_refl _))
  clear hb3 HRA HTAB
  obtain ⟨i0, hi0, hz0, hz1, hz2⟩ := info_parts info_u8
  have hW9 := write_size last n
  have hsq := fun (q : List Int) (hq : ∀ r ∈ q, r ≠ 27) => strip_seq last [n] q hq
  have hwr := fun (a : Option Addr) (cap : Nat) (W : World) (h1 : NA W a 1 [n]) (h2 : Tab W) => write_any last HL0.out.1 HL0.out.2 a 1 cap [n] W h1 (by decide) h2
  generalize writeB last [n] = S at *
  have HSQ := hid hsq
  have HWR := hid hwr
  have HW9 := hid hW9
  clear hsq hwr hW9
  go_wp2_with fail
  go_loopg [7, 8, 9] aLen (fun kx s7 s8 s9 wr => ∃ (i : Nat) (vb vc : Value) (T C : ByteArray), s7 = vb ∧ s8 = vc ∧ s9 = .int .i64 i ∧ i ≤ aLen ∧ aLen - i ≤ kx ∧ Hid (∀ r ∈ l.take i, r ≠ 27) ∧ Hid (T = textB (l.take i)) ∧ Hid (C = seqB S (l.take i)) ∧
    Hid (wr.ownsRow w3.heap.size 5 1 vb T.size (u8s T)) ∧ Hid (wr.ownsRow w3.heap.size 5 1 vc C.size (u8s C)) ∧ Hid (∀ k, vc.ownBlock = some k → vb.ownBlock ≠ some k) ∧ Hid (Below w3.heap.size w3 wr))
  case atStart => exact ⟨0, .slice none 0 0, .slice none 0 0, ⟨#[]⟩, ⟨#[]⟩, rfl, rfl, rfl, Nat.zero_le _, by omega, (fun r hr => by simp at hr), rfl, rfl, ⟨rfl, .inl ⟨rfl, rfl⟩⟩, ⟨rfl, .inl ⟨rfl, rfl⟩⟩, (fun k h => by simp [Value.ownBlock] at h), Below.refl _ _⟩
  case round =>
    obtain ⟨i, vb, vc, T, C, rfl, rfl, rfl, hin, hg, HNO, HTE, HCE, HOB, HOC, HNE, HB⟩ := hrel
    by_cases hlt : i < aLen
    · have hlt' : (i : Int) < (aLen : Int) := by omega
      obtain ⟨b, off, rfl, hbl, hcl⟩ := HRA3.out.2 (by omega)
      have hc3 := hcl i hlt
      have hcell := (HB.out.cell (p := ⟨b, off + i, none⟩) hbl).trans hc3
      have hil : i < l.length := by have := HRA3.out.1; omega
      have hld : l.getD i 0 = l[i] := by simp [List.getD_eq_getElem?_getD, hil]
      rw [hld] at hcell hc3
      have htk : l.take (i + 1) = l.take i ++ [l[i]] := by rw [List.take_add_one, List.getElem?_eq_getElem hil]; rfl
      generalize l[i] = r at *
      have HTK := hid htk
      have HC3 := hid hc3
      have hi1 : (i : Int) + 1 ≤ 9223372036854775807 := by omega
      clear hcl hld htk hil hc3
      by_cases h27 : r = 27
      · subst h27
        go_wp2_with fail
        go_ret
        exact ⟨rfl, HB3.out.trans (HB.out.mono HB3.out.size)⟩
      · have hrb : (r == 27) = false := by simpa using h27
        have hTz : T.size ≤ 4 * aLen := by
          have h1 := textB_size (l.take i)
          rw [← HTE.out, List.length_take] at h1
          have := HRA3.out.1
          omega
        have hCz : C.size ≤ (4 + S.size) * 40 := by
          have h1 := seqB_size S (l.take i)
          rw [← HCE.out] at h1
          refine Nat.le_trans h1 (Nat.mul_le_mul_left _ ?_)
          rw [List.length_take]
          omega
        have hCz : C.size ≤ 520 := by have := HW9.out; omega
        have hTz : T.size ≤ 160 := by omega
        have hpt := fun W => refput_any r W
        have hpz := putB_size r
        have hT1 : textB (l.take (i + 1)) = T ++ putB r := by rw [HTK.out, textB_snoc, HTE.out]
        have hC1 : seqB S (l.take (i + 1)) = (C ++ putB r) ++ S := by rw [HTK.out, seqB_snoc, HCE.out]
        generalize putB r = P at *
        have HPT := hid hpt
        have HPZ := hid hpz
        have HT1 := hid hT1
        have HC1 := hid hC1
        have HCZ := hid hCz
        have HTZ := hid hTz
        have HP1 := hid (u8s_one P)
        have HS1 := hid (u8s_one S)
        clear hpt hpz hT1 hC1 hCz hTz
        go_wp2_with fail
        refine (HPT.out wr).mono ?_
        rintro e w4 ⟨v4, rfl, ⟨rfl, hba4⟩, hb4⟩
        have hT4 := own_kept HOB.out (grown_of_below hb4 none) fun _ _ e => by cases e
        have hC4 := own_kept HOC.out (grown_of_below hb4 none) fun _ _ e => by cases e
        have hB4 := HB.out.trans (hb4.mono HB.out.size)
        have HR4 := hid hba4.reads
        have HT4 := hid hT4
        have HC4 := hid hC4
        have HB4 := hid hB4
        clear hT4 hC4 hB4 hba4 hb4
        go_wp2_with (at_builtin; go_must (refine wpList_append_any _ rfl (.tmp 29) (.tmp 34) 22 rfl w3.heap.size 5 i0 (.int .u8 0) 1 1 Tryd.underlying22 hi0 hz0 hz1 hz2 rfl (by decide) u7 T.size (u8s T) rfl HT4.out _ (some ⟨wr.heap.size, 0, none⟩) P.size P.size (u8s P) rfl HR4.out HP1.out (by unfold maxLen; have := HPZ.out; have := HTZ.out; omega) (by have := HPZ.out; have := HTZ.out; omega) HB4.out.size ?_); intro v5 w5 ho5 hg5 hl5; have hb5 := HB4.out.grown hg5 HB4.out.size (own_ge HT4.out); have hcell5 := (hb5.cell (p := ⟨b, off + i, none⟩) hbl).trans HC3.out; have HB5 := hid hb5; have HT5 := hid ho5; have HC5 := hid (own_kept HC4.out hg5 HNE.out); have HNE5 := hid (ne_first HNE.out HC4.out hl5); clear ho5 hg5 hl5 hb5)
        refine (HPT.out w5).mono ?_
        rintro e w6 ⟨v6, rfl, ⟨rfl, hba6⟩, hb6⟩
        have hT6 := own_kept HT5.out (grown_of_below hb6 none) fun _ _ e => by cases e
        have hC6 := own_kept HC5.out (grown_of_below hb6 none) fun _ _ e => by cases e
        have hB6 := HB5.out.trans (hb6.mono HB5.out.size)
        have HR6 := hid hba6.reads
        have HT6 := hid hT6
        have HC6 := hid hC6
        have HB6 := hid hB6
        clear hT6 hC6 hB6 hba6 hb6
        go_wp2_with (at_builtin; go_must (refine wpList_append_any _ rfl (.tmp 36) (.tmp 41) 22 rfl w3.heap.size 5 i0 (.int .u8 0) 1 1 Tryd.underlying22 hi0 hz0 hz1 hz2 rfl (by decide) u8 C.size (u8s C) rfl HC6.out _ (some ⟨w5.heap.size, 0, none⟩) P.size P.size (u8s P) rfl HR6.out HP1.out (by unfold maxLen; have := HPZ.out; have := HCZ.out; omega) (by have := HPZ.out; have := HCZ.out; omega) HB6.out.size ?_); intro v7 w7 ho7 hg7 hl7; have hb7 := HB6.out.grown hg7 HB6.out.size (own_ge HC6.out); have HB7 := hid hb7; have HC7 := hid ho7; have HT7 := hid (own_kept HT6.out hg7 (ne_flip HNE5.out)); have HNE7 := hid (ne_second HNE5.out HT6.out hl7); clear ho7 hg7 hl7 hb7)
        have hb8 := (Below.refl w7.heap.size w7).alloc (Nat.le_refl _) (.cells #[.int .i64 n] 3)
        have hT8 := own_kept HT7.out (grown_of_below hb8 none) fun _ _ e => by cases e
        have hC8 := own_kept HC7.out (grown_of_below hb8 none) fun _ _ e => by cases e
        have hB8 := HB7.out.trans (hb8.mono HB7.out.size)
        have hna8 : NA (w7.alloc (.cells #[.int .i64 n] 3)) (some ⟨w7.heap.size, 0, none⟩) 1 [n] := ⟨rfl, fun _ => ⟨w7.heap.size, 0, rfl, by simp, fun j hj => by
          obtain rfl : j = 0 := by omega
          rw [(Blk.new w7 3 #[.int .i64 n]).cell]; rfl⟩⟩
        have hta8 := (HTAB3.out.below hB8 (Nat.le_refl _))
        have HT8 := hid hT8
        have HC8 := hid hC8
        have HB8 := hid hB8
        generalize w7.alloc (.cells #[.int .i64 n] 3) = w8 at *
        have HWC := hid (HWR.out _ 1 w8 hna8 hta8)
        clear hb8 hT8 hC8 hB8 hna8 hta8
        refine HWC.out.mono ?_
        rintro e w9 ⟨rfl, hb9⟩
        have hcv := Lib.run_convert_string_bytes (P := Tryd.prog) w9 9 22 5 S Tryd.underlying9 Tryd.underlying22 Tryd.underlying5
        have hb10 := hb9.trans ((bytesWorld_below w9 5 S).mono hb9.size)
        have hT10 := own_kept HT8.out (grown_of_below hb10 none) fun _ _ e => by cases e
        have hC10 := own_kept HC8.out (grown_of_below hb10 none) fun _ _ e => by cases e
        have hB10 := HB8.out.trans (hb10.mono HB8.out.size)
        have hba10 : BA (Lib.bytesWorld w9 5 S) (some ⟨w9.heap.size, 0, none⟩) S.size (grownCap w9 S.size 0 5) S :=
          ⟨rfl, grownCap_ge _ _ _ _, by have := grownCap_le_maxLen w9 S.size 0 5 (by unfold maxLen; have := HW9.out; omega); unfold maxLen at this; omega, fun hn => ⟨w9.heap.size, 0, rfl, by rw [Lib.bytesWorld_size]; omega, bytesWorld_new w9 5 S⟩⟩
        have HT10 := hid hT10
        have HC10 := hid hC10
        have HB10 := hid hB10
        have HR10 := hid hba10.reads
        clear hb9 hb10 hT10 hC10 hB10 hba10 HWC
        go_wp2_with (at_builtin; go_must (refine wpList_append_any _ rfl (.tmp 42) (.tmp 48) 22 rfl w3.heap.size 5 i0 (.int .u8 0) 1 1 Tryd.underlying22 hi0 hz0 hz1 hz2 rfl (by decide) v7 (C.size + P.size) (u8s C ++ u8s P) rfl HC10.out _ (some ⟨w9.heap.size, 0, none⟩) S.size (grownCap w9 S.size 0 5) (u8s S) rfl HR10.out HS1.out (by unfold maxLen; have := HPZ.out; have := HCZ.out; have := HW9.out; omega) (by have := HPZ.out; have := HCZ.out; have := HW9.out; omega) HB10.out.size ?_); intro v11 w11 ho11 hg11 hl11; have hb11 := HB10.out.grown hg11 HB10.out.size (own_ge HC10.out); have HB11 := hid hb11; have HC11 := hid ho11; have HT11 := hid (own_kept HT10.out hg11 (ne_flip HNE7.out)); have HNE11 := hid (ne_second HNE7.out HT10.out hl11); clear ho11 hg11 hl11 hb11)
        go_roundg (aLen - (i + 1))
        case measure => omega
        case rel =>
          refine ⟨i + 1, _, _, T ++ P, (C ++ P) ++ S, rfl, rfl, by go_num, by omega, Nat.le_refl _, ?_, HT1.out.symm, HC1.out.symm, ?_, ?_, HNE11, HB11⟩
          · show ∀ q ∈ _, _
            intro q hq
            rw [HTK.out] at hq
            rcases List.mem_append.1 hq with h | h
            · exact HNO.out q h
            · rw [List.mem_singleton.1 h]; exact h27
          · show World.ownsRow _ _ _ _ _ _ _
            rw [u8s_append, ByteArray.size_append]
            exact HT11.out
          · show World.ownsRow _ _ _ _ _ _ _
            rw [u8s_append, u8s_append, ByteArray.size_append, ByteArray.size_append]
            exact HC11.out
    · have hlt' : ¬ (i : Int) < (aLen : Int) := by omega
      have hta : l.take i = l := List.take_of_length_le (by have := HRA3.out.1; omega)
      have hno := HNO.out
      have hte := HTE.out
      have hce := HCE.out
      rw [hta] at hno hte hce
      have hsb := strip_text l hno
      have hsc := HSQ.out l hno
      rw [← hte] at hsb hsc
      rw [← hce] at hsc
      have hTz : T.size ≤ 4 * l.length := by rw [hte]; exact textB_size l
      have hCz : C.size ≤ (4 + S.size) * l.length := by rw [hce]; exact seqB_size S l
      have hTy : T.size ≤ 160 := by have := HRA3.out.1; omega
      have hCy : C.size ≤ 520 := by
        have h1 : l.length ≤ 40 := by have := HRA3.out.1; omega
        have h2 : (4 + S.size) * l.length ≤ 13 * 40 := Nat.mul_le_mul (by have := HW9.out; omega) h1
        omega
      have hvT := conv_own HOB.out
      obtain ⟨AT, cT, rfl⟩ := owns_slice HOB.out
      obtain ⟨AC, cC, rfl⟩ := owns_slice HOC.out
      have hbT := BA.of_own HOB.out
      have hbC := BA.of_own HOC.out
      have hS1 := fun (W : World) (hb : Below wr.heap.size wr W) => strip_any AT T.size cT T W (hbT.below hb (Nat.le_refl _)) (by omega)
      have hS2 := fun (W : World) (hb : Below wr.heap.size wr W) => strip_any AC C.size cC C W (hbC.below hb (Nat.le_refl _)) (by omega)
      rw [hsb] at hS1
      rw [hsc] at hS2
      have HS1 := hid hS1
      have HS2 := hid hS2
      have HVT := hid hvT
      have hbd : Below wr.heap.size wr wr.drew := ⟨rfl, rfl, rfl, Nat.le_refl _, fun _ _ => rfl⟩
      have hA := HVT.out wr.drew hbd
      have HBD := hid hbd
      clear hbd
      clear hta hno hte hce hsb hsc hTz hCz hTy hCy hvT hbT hbC hS1 hS2 HOB HOC HNE HNO HTE HCE HSQ HWR hlt hin hg
      go_wp2_with fail
      generalize T.size = Tn at *
      generalize C.size = Cn at *
      go_region_with (first
        | (go_at_call 13; refine (HS2.out _ HB45.out).mono ?_; rintro e w6 ⟨v6, rfl, hb6, ho6⟩; have hb46 := HB45.out.trans (hb6.mono HB45.out.size); have hD := HVT.out w6 hb46; have hE := conv_own ho6 w6 (Below.refl _ _); obtain ⟨A6, c6, rfl⟩ := owns_slice ho6; have HB46 := hid hb46; clear hb6 hb46 ho6)
        | (go_at_call 13; refine (HS1.out _ HBD.out).mono ?_; rintro e w5 ⟨v5, rfl, hb5, ho5⟩; have hb45 := HBD.out.trans hb5; have hB := HVT.out w5 hb45; have hC := conv_own ho5 w5 (Below.refl _ _); obtain ⟨A5, c5, rfl⟩ := owns_slice ho5; have HB45 := hid hb45; clear hb5 hb45 ho5))
      all_goals
        go_wp2_with fail
        go_ret
        exact ⟨rfl, HB3.out.trans ((HB.out.trans (HB46.out.mono HB.out.size)).mono HB3.out.size)⟩
end Go.Proofs.YtlopigkaibkblaaDoor.ansiLeaves
