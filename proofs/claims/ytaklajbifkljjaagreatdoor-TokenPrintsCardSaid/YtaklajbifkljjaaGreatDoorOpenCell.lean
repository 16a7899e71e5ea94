/- How a field that is a slice of structs is opened. Of no program. -/
import Derived.Test.YtaklajbifkljjaaGreatDoorOpenRows
namespace Go.Proofs.YtaklajbifkljjaaGreatDoor
open Go.Joins Go.ChangeShapes Go.WideShapes Go.RowKit Go.Deep
set_option linter.unusedVariables false
theorem cell_aggrow {H : Type} {enc : TypeId × Value → H} {P : Program} {w : World} {held : Bool} {ks : List FK} {t e : TypeId} {fs : Array Field} {c : Value} {y : DataW H × List MemPlace} {n : Nat} (ht : P.underlying t = some (.slice e)) (he : P.underlying e = some (.struct fs))
    (hone : oneCellFields P fs = true) (hC : P.cellsOf e = fs.size) (hks : ksB P fs ks = true) (h : DataW.trod enc P w 0 (fun _ => true) held n t [c] = some y) : ∃ a len cap D, c = .slice a len cap ∧ IsAggRow ks w a len cap D := by
  have hsh : ∃ a len cap, c = .slice a len cap := by
    rcases open_slice_fields ht he hone hC h with ⟨hcs, _⟩ | ⟨x, l, c', m, hcs, _⟩
    · exact ⟨none, 0, 0, by simpa using hcs⟩
    · exact ⟨some x, l, c', by simpa using hcs⟩
  obtain ⟨a, len, cap, rfl⟩ := hsh
  obtain ⟨d, p⟩ := y
  obtain ⟨D, hD⟩ := aggRow_of (ks := ks) (d := d) (p := p) (held := held) (enc := enc) (a := a) (len := len) (cap := cap) ht he hone hC hks ⟨n, h⟩
  exact ⟨a, len, cap, D, rfl, hD⟩
theorem cell_string {H : Type} {enc : TypeId × Value → H} {P : Program} {w : World} {base : Nat} {spare : Nat → Bool} {held : Bool} {t : TypeId} {c : Value} {y : DataW H × List MemPlace} {n : Nat} (hu : P.underlying t = some .string) (h : DataW.trod enc P w base spare held n t [c] = some y) : ∃ s : ByteArray, c = .string s ∧ s.size ≤ maxLen := by
  obtain ⟨s, e, _, hs⟩ := DataW.trod_string hu h
  simp at e
  exact ⟨s, e, hs⟩
theorem list_of_len6 {α : Type} (l : List α) (h : l.length = 6) : ∃ a b c d e f, l = [a, b, c, d, e, f] :=
  match l, h with
  | [a, b, c, d, e, f], _ => ⟨a, b, c, d, e, f, rfl⟩
end Go.Proofs.YtaklajbifkljjaaGreatDoor
