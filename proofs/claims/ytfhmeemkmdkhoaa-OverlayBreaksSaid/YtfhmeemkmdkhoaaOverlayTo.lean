/- Walks of the statements' To and awake (chapter 25). -/
import Derived.Test.YtfhmeemkmdkhoaaProg
import Derived.Test.YtfhmeemkmdkhoaaOverlay
namespace Go.Proofs.Ytfhmeemkmdkhoaa
open Go.RowKit
open Go.Lib

set_option maxHeartbeats 1000000 in
theorem to_any (r a s : Int) (f c n p : Bool) (w : World) :
    Calls Try.prog 10 #[.agg #[.int .i32 r, .int .i64 a, .int .i64 s, .bool f, .bool c, .bool n, .bool p]] w
      fun e w' => e = .returned (.agg #[.int .i32 r, .int .i64 a, .int .i64 s, .bool f, .bool c, .bool n, .bool p]) ∧ Below w.heap.size w w' := by
  go_enter Try.func10, Try.ntmps10
  go_wp2
  refine bodyPost_ret (v := .agg #[.int .i32 r, .int .i64 a, .int .i64 s, .bool f, .bool c, .bool n, .bool p]) (by simp [results, Try.results10, go_sem]) rfl ⟨rfl, ?_⟩
  exact ((Below.refl _ _).alloc (Nat.le_refl _) _).alloc (by simp) _

set_option maxHeartbeats 4000000 in
theorem awake25_any (w : World) : Calls Try.prog 12 #[] w fun e w' => e = .returned (.bool true) ∧ Below w.heap.size w w' := by
  have h1 := fun fb W => between_any 3 32 0 0 false false true false 97 0 0 fb false true false true W
  have h2 := fun W => between_any 1 32 0 0 false false true false 97 0 0 false false true false true W
  have h3 := h1 true
  have h4 := h1 false
  rw [show btw 3 32 true false true false true false true = 2 from rfl] at h3
  rw [show btw 3 32 true false false false true false true = -1 from rfl] at h4
  rw [show btw 1 32 true false false false true false true = 1 from rfl] at h2
  have H2 := Lib.hid h2
  have H3 := Lib.hid h3
  have H4 := Lib.hid h4
  clear h1 h2 h3 h4
  go_enter Try.func12, Try.ntmps12
  go_wp2_with fail
  refine (H4.out _).mono ?_
  rintro e w1 ⟨rfl, hb1⟩
  obtain ⟨hc1, _⟩ := bcell hb1
  have HB1 := Lib.hid hb1
  clear hb1
  go_wp2_with fail
  refine (H3.out _).mono ?_
  rintro e w2 ⟨rfl, hb2⟩
  have hs2 := HB1.out.size
  have hb2' := HB1.out.trans (hb2.mono hs2)
  clear hc1 hb2 HB1 hs2
  obtain ⟨hc2, _⟩ := bcell hb2'
  have HB2 := Lib.hid hb2'
  clear hb2'
  go_wp2_with fail
  refine (H2.out _).mono ?_
  rintro e w3 ⟨rfl, hb3⟩
  have hs3 := HB2.out.size
  have hb3' := HB2.out.trans (hb3.mono hs3)
  have HB3 := Lib.hid hb3'
  clear hb3 hb3' hc2 HB2 hs3
  go_wp2_with fail
  go_ret
  refine ⟨rfl, Below.trans ?_ (HB3.out.mono (by simp; omega))⟩
  exact ((((Below.refl _ _).alloc (Nat.le_refl _) _).alloc (by simp) _).alloc (by simp; omega) _)
end Go.Proofs.Ytfhmeemkmdkhoaa
