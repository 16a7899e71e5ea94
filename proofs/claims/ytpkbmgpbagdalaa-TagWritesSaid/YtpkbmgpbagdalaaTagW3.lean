/- Chapter 18: what is written is read again: the plain law. -/
import Derived.Test.YtpkbmgpbagdalaaTagSt2
import Derived.Test.YtpkbmgpbagdalaaTagW2
namespace Go.Proofs.Ytpkbmgpbagdalaa
set_option linter.unusedVariables false

/-- An attribute, written. -/
def attrW (a : ByteArray × ByteArray) : ByteArray := (((⟨#[32]⟩ ++ a.1) ++ ⟨#[61, 34]⟩) ++ a.2) ++ ⟨#[34]⟩
def bodyW : ByteArray → List (ByteArray × ByteArray) → ByteArray
  | x, [] => x
  | x, a :: l => bodyW (x ++ attrW a) l
def slashW (kd : Int) : ByteArray := if kd = 1 then ⟨#[47]⟩ else ⟨#[]⟩
def headW (kd : Int) (nm : ByteArray) : ByteArray := (⟨#[60]⟩ ++ slashW kd) ++ nm
def singleW (x : ByteArray) (sg : Bool) : ByteArray := if sg = true then x ++ ⟨#[32, 47]⟩ else x
def writeW (kd : Int) (nm : ByteArray) (l : List (ByteArray × ByteArray)) (sg : Bool) : ByteArray := singleW (bodyW (headW kd nm) l) sg ++ ⟨#[62]⟩

theorem byt_left (x y : ByteArray) (i : Nat) (h : i < x.size) : byt (x ++ y) i = byt x i := by
  unfold byt
  have h1 : i < x.data.size := h
  rw [Array.getD_eq_getD_getElem?, Array.getD_eq_getD_getElem?, ByteArray.data_append, Array.getElem?_append_left h1]
theorem byt_right (x y : ByteArray) (j : Nat) : byt (x ++ y) (x.size + j) = byt y j := by
  unfold byt
  have h1 : x.data.size ≤ x.size + j := Nat.le_add_right _ _
  rw [Array.getD_eq_getD_getElem?, Array.getD_eq_getD_getElem?, ByteArray.data_append, Array.getElem?_append_right h1]
  rw [show x.size + j - x.data.size = j from Nat.add_sub_cancel_left _ _]
theorem Pre.left (x y : ByteArray) : Pre x (x ++ y) := ⟨by rw [ByteArray.size_append]; omega, fun i hi => byt_left x y i hi⟩
theorem Pre.trans {x y z : ByteArray} (h : Pre x y) (k : Pre y z) : Pre x z := ⟨Nat.le_trans h.1 k.1, fun i hi => (k.2 i (Nat.lt_of_lt_of_le hi h.1)).trans (h.2 i hi)⟩
theorem Pre.at {x y t : ByteArray} (h : Pre (x ++ y) t) (j : Nat) (hj : j < y.size) : byt t (x.size + j) = byt y j := by
  rw [h.2 _ (by rw [ByteArray.size_append]; omega), byt_right]
theorem Pre.size_at {x y t : ByteArray} (h : Pre (x ++ y) t) : x.size + y.size ≤ t.size := by
  have := h.1
  rwa [ByteArray.size_append] at this
theorem Pre.piece {x y t : ByteArray} (h : Pre (x ++ y) t) : t.extract x.size (x.size + y.size) = y := by
  have hs := h.size_at
  apply ext_byt
  · rw [ByteArray.size_extract]; omega
  · intro j hj
    rw [ByteArray.size_extract] at hj
    rw [byt_extract t _ _ j (by omega) hs, h.at j (by omega)]
theorem bodyW_pre (l : List (ByteArray × ByteArray)) : ∀ x, Pre x (bodyW x l) := by
  induction l with
  | nil => intro x; exact ⟨Nat.le_refl _, fun _ _ => rfl⟩
  | cons a l ih => intro x; exact (Pre.left x (attrW a)).trans (ih _)
theorem singleW_pre (x : ByteArray) (sg : Bool) : Pre x (singleW x sg) := by
  cases sg
  · exact ⟨Nat.le_refl _, fun _ _ => rfl⟩
  · exact Pre.left _ _

/-- A byte of a plain word. -/
def WordC (c : Int) : Prop := (97 ≤ c ∧ c ≤ 122) ∨ (48 ≤ c ∧ c ≤ 57)
theorem word_not {c : Int} (h : WordC c) : blankB c = false ∧ c ≠ 47 ∧ c ≠ 62 ∧ c ≠ 61 := by
  unfold WordC at h
  refine ⟨?_, by omega, by omega, by omega⟩
  unfold blankB
  simp
  omega
theorem PlainP.word {s : ByteArray} (h : PlainP s) (i : Nat) (hi : i < s.size) : WordC (byt s i) := by
  rcases h.2 i hi with h | h
  · exact .inl h
  · exact .inr h.2
theorem at1_ext (s : ByteArray) (i : Nat) : at1 s i = s.extract i (i + 1) := rfl
theorem word_low (s : ByteArray) (i : Nat) (hi : i < s.size) (h : WordC (byt s i)) : lowerB (at1 s i) = at1 s i := by
  apply plain_low
  intro j hj
  have hz : (at1 s i).size = 1 := by rw [at1_ext, ByteArray.size_extract]; omega
  obtain rfl : j = 0 := by omega
  rw [at1_ext, byt_extract s i (i + 1) 0 (by omega) (by omega), Nat.add_zero]
  unfold WordC at h
  omega

theorem words0 (t : ByteArray) (kd : Int) (sl : Bool) (nm vl : ByteArray) (q : Int) (at_ : List (ByteArray × ByteArray)) : ∀ (m i : Nat) (tn : ByteArray), i + m ≤ t.size → (∀ j, j < m → WordC (byt t (i + j))) →
    fromT t kd i ⟨0, sl, nm, vl, q, tn, at_⟩ = fromT t kd (i + m) ⟨0, sl, nm, vl, q, tn ++ t.extract i (i + m), at_⟩ := by
  intro m
  induction m with
  | zero => intro i tn h1 h2; rw [Nat.add_zero, ext_self, append_empty]
  | succ m ih =>
    intro i tn h1 h2
    have hc := h2 0 (by omega)
    rw [Nat.add_zero] at hc
    obtain ⟨n1, n2, n3, n4⟩ := word_not hc
    rw [fromT_go t kd i ⟨0, sl, nm, vl, q, tn, at_⟩ ⟨0, sl, nm, vl, q, tn ++ at1 t i, at_⟩ (by omega) (by unfold stepT; simp [n1, n2, n3, word_low t i (by omega) hc])]
    rw [ih (i + 1) _ (by omega) fun j hj => by have := h2 (j + 1) (by omega); rwa [show i + (j + 1) = i + 1 + j by omega] at this]
    rw [append_assoc3, at1_ext, ext_append t i (i + 1) (i + 1 + m) (by omega) (by omega) (by omega), show i + 1 + m = i + (m + 1) by omega]
theorem words2 (t : ByteArray) (kd : Int) (sl : Bool) (vl : ByteArray) (q : Int) (tn : ByteArray) (at_ : List (ByteArray × ByteArray)) : ∀ (m i : Nat) (nm : ByteArray), i + m ≤ t.size → (∀ j, j < m → WordC (byt t (i + j))) →
    fromT t kd i ⟨2, sl, nm, vl, q, tn, at_⟩ = fromT t kd (i + m) ⟨2, sl, nm ++ t.extract i (i + m), vl, q, tn, at_⟩ := by
  intro m
  induction m with
  | zero => intro i nm h1 h2; rw [Nat.add_zero, ext_self, append_empty]
  | succ m ih =>
    intro i nm h1 h2
    have hc := h2 0 (by omega)
    rw [Nat.add_zero] at hc
    obtain ⟨n1, n2, n3, n4⟩ := word_not hc
    rw [fromT_go t kd i ⟨2, sl, nm, vl, q, tn, at_⟩ ⟨2, sl, nm ++ at1 t i, vl, q, tn, at_⟩ (by omega) (by unfold stepT; simp [n1, n2, n3, n4, word_low t i (by omega) hc])]
    rw [ih (i + 1) _ (by omega) fun j hj => by have := h2 (j + 1) (by omega); rwa [show i + (j + 1) = i + 1 + j by omega] at this]
    rw [append_assoc3, at1_ext, ext_append t i (i + 1) (i + 1 + m) (by omega) (by omega) (by omega), show i + 1 + m = i + (m + 1) by omega]
theorem words6 (t : ByteArray) (kd : Int) (sl : Bool) (nm tn : ByteArray) (at_ : List (ByteArray × ByteArray)) : ∀ (m i : Nat) (vl : ByteArray), i + m ≤ t.size → (∀ j, j < m → byt t (i + j) ≠ 34) →
    fromT t kd i ⟨6, sl, nm, vl, 34, tn, at_⟩ = fromT t kd (i + m) ⟨6, sl, nm, vl ++ t.extract i (i + m), 34, tn, at_⟩ := by
  intro m
  induction m with
  | zero => intro i vl h1 h2; rw [Nat.add_zero, ext_self, append_empty]
  | succ m ih =>
    intro i vl h1 h2
    have hc := h2 0 (by omega)
    rw [Nat.add_zero] at hc
    rw [fromT_go t kd i ⟨6, sl, nm, vl, 34, tn, at_⟩ ⟨6, sl, nm, vl ++ at1 t i, 34, tn, at_⟩ (by omega) (by unfold stepT; simp [hc])]
    rw [ih (i + 1) _ (by omega) fun j hj => by have := h2 (j + 1) (by omega); rwa [show i + (j + 1) = i + 1 + j by omega] at this]
    rw [append_assoc3, at1_ext, ext_append t i (i + 1) (i + 1 + m) (by omega) (by omega) (by omega), show i + 1 + m = i + (m + 1) by omega]

theorem blank32 : blankB 32 = true := rfl
/-- One attribute. -/
theorem attr_read (t : ByteArray) (kd : Int) (x : ByteArray) (a : ByteArray × ByteArray) (k : Nat) (hk : k = 0 ∨ k = 1) (sl : Bool) (nm vl : ByteArray) (q : Int) (tn : ByteArray) (at_ : List (ByteArray × ByteArray))
    (hp : Pre (x ++ attrW a) t) (h1 : PlainP a.1) (h2 : quoteB a.2 = false) :
    ∃ (nm' vl' : ByteArray) (q' : Int), fromT t kd x.size ⟨k, sl, nm, vl, q, tn, at_⟩ = fromT t kd (x ++ attrW a).size ⟨1, false, nm', vl', q', tn, at_ ++ [a]⟩ := by
  obtain ⟨an, av⟩ := a
  simp only at h1 h2
  refine ⟨an, av, 34, ?_⟩
  have e : x ++ attrW (an, av) = ((((x ++ ⟨#[32]⟩) ++ an) ++ ⟨#[61, 34]⟩) ++ av) ++ ⟨#[34]⟩ := by
    unfold attrW
    simp only [append_assoc3]
  rw [e] at hp ⊢
  have p4 := hp
  have p3 := (Pre.left _ _).trans p4
  have p2 := (Pre.left _ _).trans p3
  have p1 := (Pre.left _ _).trans p2
  have p0 := (Pre.left _ _).trans p1
  have s4 := p4.size_at
  have z34 : (⟨#[34]⟩ : ByteArray).size = 1 := rfl
  have z61 : (⟨#[61, 34]⟩ : ByteArray).size = 2 := rfl
  have z32 : (⟨#[32]⟩ : ByteArray).size = 1 := rfl
  have g0 := p0.at 0 (by rw [z32]; omega)
  have g1 := fun j (hj : j < an.size) => p1.at j hj
  have g2 := p2.at 0 (by rw [z61]; omega)
  have g3 := p2.at 1 (by rw [z61]; omega)
  have g4 := fun j (hj : j < av.size) => p3.at j hj
  have g5 := p4.at 0 (by rw [z34]; omega)
  have c1 := p1.piece
  have c3 := p3.piece
  rw [show byt (⟨#[32]⟩ : ByteArray) 0 = 32 from rfl, Nat.add_zero] at g0
  rw [show byt (⟨#[61, 34]⟩ : ByteArray) 0 = 61 from rfl, Nat.add_zero] at g2
  rw [show byt (⟨#[61, 34]⟩ : ByteArray) 1 = 34 from rfl] at g3
  rw [show byt (⟨#[34]⟩ : ByteArray) 0 = 34 from rfl, Nat.add_zero] at g5
  simp only [ByteArray.size_append, z34, z61, z32] at g0 g1 g2 g3 g4 g5 c1 c3 s4 ⊢
  have hpos := h1.1
  -- the space
  have e0 : fromT t kd x.size ⟨k, sl, nm, vl, q, tn, at_⟩ = fromT t kd (x.size + 1) ⟨1, false, nm, vl, q, tn, at_⟩ := by
    apply fromT_go t kd x.size _ _ (by omega)
    rw [g0]
    rcases hk with rfl | rfl <;> (unfold stepT; simp [blank32])
  rw [e0]
  -- the first letter
  have hf := g1 0 hpos
  rw [Nat.add_zero] at hf
  have hw0 := h1.word 0 hpos
  rw [← hf] at hw0
  obtain ⟨n1, n2, n3, n4⟩ := word_not hw0
  rw [fromT_go t kd (x.size + 1) ⟨1, false, nm, vl, q, tn, at_⟩ ⟨2, false, at1 t (x.size + 1), ⟨#[]⟩, q, tn, at_⟩ (by omega) (by unfold stepT; simp [n1, n2, n3, word_low t _ (by omega) hw0])]
  -- the name
  rw [words2 t kd false ⟨#[]⟩ q tn at_ (an.size - 1) (x.size + 1 + 1) _ (by omega) fun j hj => by
    have := g1 (j + 1) (by omega)
    rw [show x.size + 1 + (j + 1) = x.size + 1 + 1 + j by omega] at this
    rw [this]
    exact h1.word _ (by omega)]
  rw [at1_ext, ext_append t (x.size + 1) (x.size + 1 + 1) _ (by omega) (by omega) (by omega), show x.size + 1 + 1 + (an.size - 1) = x.size + 1 + an.size by omega, c1]
  rw [fromT_go t kd (x.size + 1 + an.size) ⟨2, false, an, ⟨#[]⟩, q, tn, at_⟩ ⟨4, false, an, ⟨#[]⟩, q, tn, at_⟩ (by omega) (by rw [g2]; rfl)]
  rw [fromT_go t kd (x.size + 1 + an.size + 1) ⟨4, false, an, ⟨#[]⟩, q, tn, at_⟩ ⟨6, false, an, ⟨#[]⟩, 34, tn, at_⟩ (by omega) (by rw [g3]; rfl)]
  rw [words6 t kd false an tn at_ av.size (x.size + 1 + an.size + 1 + 1) _ (by omega) fun j hj => by
    rw [show x.size + 1 + an.size + 1 + 1 + j = x.size + 1 + an.size + 2 + j by omega, g4 j hj]
    intro he
    have := (quoteB_iff av).2 ⟨j, hj, he⟩
    rw [h2] at this
    cases this]
  rw [show x.size + 1 + an.size + 1 + 1 = x.size + 1 + an.size + 2 by omega, c3, empty_append]
  rw [fromT_go t kd (x.size + 1 + an.size + 2 + av.size) ⟨6, false, an, av, 34, tn, at_⟩ ⟨1, false, an, av, 34, tn, at_ ++ [(an, av)]⟩ (by omega) (by rw [g5]; rfl)]

/-- All attributes. -/
theorem attrs_read (t : ByteArray) (kd : Int) (tn : ByteArray) (l : List (ByteArray × ByteArray)) : ∀ (x : ByteArray) (k : Nat) (hk : k = 0 ∨ k = 1) (sl : Bool) (hsl : k = 1 → sl = false) (nm vl : ByteArray) (q : Int) (at_ : List (ByteArray × ByteArray)),
    Pre (bodyW x l) t → (∀ a ∈ l, PlainP a.1 ∧ quoteB a.2 = false) →
    ∃ k' sl' nm' vl' q', (k' = 0 ∨ k' = 1) ∧ (k' = 1 → sl' = false) ∧ fromT t kd x.size ⟨k, sl, nm, vl, q, tn, at_⟩ = fromT t kd (bodyW x l).size ⟨k', sl', nm', vl', q', tn, at_ ++ l⟩ := by
  induction l with
  | nil => intro x k hk sl hsl nm vl q at_ hp ha; exact ⟨k, sl, nm, vl, q, hk, hsl, by rw [List.append_nil]; rfl⟩
  | cons a l ih =>
    intro x k hk sl hsl nm vl q at_ hp ha
    obtain ⟨h1, h2⟩ := ha a (List.mem_cons_self ..)
    obtain ⟨nm', vl', q', he⟩ := attr_read t kd x a k hk sl nm vl q tn at_ ((bodyW_pre l _).trans hp) h1 h2
    obtain ⟨k2, sl2, nm2, vl2, q2, hk2, hs2, he2⟩ := ih (x ++ attrW a) 1 (.inr rfl) false (fun _ => rfl) nm' vl' q' (at_ ++ [a]) hp fun b hb => ha b (List.mem_cons_of_mem _ hb)
    refine ⟨k2, sl2, nm2, vl2, q2, hk2, hs2, ?_⟩
    rw [he, he2, List.append_assoc]
    rfl

/-- The end. -/
theorem end_read (t : ByteArray) (kd : Int) (tn x : ByteArray) (sg : Bool) (k : Nat) (hk : k = 0 ∨ k = 1) (sl : Bool) (hsl : k = 1 → sl = false) (nm vl : ByteArray) (q : Int) (at_ : List (ByteArray × ByteArray))
    (hp : Pre (singleW x sg ++ ⟨#[62]⟩) t) : fromT t kd x.size ⟨k, sl, nm, vl, q, tn, at_⟩ = ⟨kd, (singleW x sg ++ ⟨#[62]⟩).size, tn, at_, sg, true⟩ := by
  have z62 : (⟨#[62]⟩ : ByteArray).size = 1 := rfl
  have z47 : (⟨#[32, 47]⟩ : ByteArray).size = 2 := rfl
  have s1 := hp.size_at
  have g := hp.at 0 (by rw [z62]; omega)
  rw [show byt (⟨#[62]⟩ : ByteArray) 0 = 62 from rfl, Nat.add_zero] at g
  cases sg
  · simp only [singleW, ByteArray.size_append, z62, if_neg (show ¬ false = true by decide)] at s1 g ⊢
    rcases hk with rfl | rfl
    · exact fromT_stop t kd x.size _ ⟨1, false, nm, vl, q, tn, at_⟩ (by omega) (by rw [g]; rfl)
    · obtain rfl := hsl rfl
      exact fromT_stop t kd x.size _ ⟨1, false, nm, vl, q, tn, at_⟩ (by omega) (by rw [g]; rfl)
  · have p0 : Pre (x ++ ⟨#[32, 47]⟩) t := (Pre.left _ _).trans hp
    have g0 := p0.at 0 (by rw [z47]; omega)
    have g1 := p0.at 1 (by rw [z47]; omega)
    rw [show byt (⟨#[32, 47]⟩ : ByteArray) 0 = 32 from rfl, Nat.add_zero] at g0
    rw [show byt (⟨#[32, 47]⟩ : ByteArray) 1 = 47 from rfl] at g1
    simp only [singleW, ByteArray.size_append, z62, z47, if_pos] at s1 g ⊢
    rw [fromT_go t kd x.size ⟨k, sl, nm, vl, q, tn, at_⟩ ⟨1, false, nm, vl, q, tn, at_⟩ (by omega) (by rw [g0]; rcases hk with rfl | rfl <;> (unfold stepT; simp [blank32]))]
    rw [fromT_go t kd (x.size + 1) ⟨1, false, nm, vl, q, tn, at_⟩ ⟨1, true, nm, vl, q, tn, at_⟩ (by omega) (by rw [g1]; rfl)]
    exact fromT_stop t kd (x.size + 1 + 1) _ ⟨1, true, nm, vl, q, tn, at_⟩ (by omega) (by rw [show x.size + 1 + 1 = x.size + 2 by omega, g]; rfl)

/-- What is written is read again, whatever stands behind it. -/
theorem write_read (kd : Int) (hk : kd = 0 ∨ kd = 1) (nm : ByteArray) (l : List (ByteArray × ByteArray)) (sg : Bool) (more : ByteArray) (hn : PlainP nm) (ha : ∀ a ∈ l, PlainP a.1 ∧ quoteB a.2 = false) :
    readV (writeW kd nm l sg ++ more) 0 = (⟨kd, (writeW kd nm l sg).size, nm, l, sg, true⟩, true) := by
  have hp : Pre (writeW kd nm l sg) (writeW kd nm l sg ++ more) := Pre.left _ _
  generalize writeW kd nm l sg ++ more = t at hp ⊢
  have hpb : Pre (bodyW (headW kd nm) l) t := ((singleW_pre _ sg).trans (Pre.left _ _)).trans hp
  have hph : Pre (headW kd nm) t := (bodyW_pre l _).trans hpb
  have hps : Pre (⟨#[60]⟩ ++ slashW kd) t := (Pre.left _ _).trans hph
  have hp0 : Pre (⟨#[60]⟩ : ByteArray) t := (Pre.left _ _).trans hps
  have h60 : byt t 0 = 60 := hp0.2 0 (by decide)
  have hsz := hph.size_at
  have hpos := hn.1
  have z60 : (⟨#[60]⟩ : ByteArray).size = 1 := rfl
  have hnb := fun j (hj : j < nm.size) => hph.at j hj
  have hpc := hph.piece
  have hf := hnb 0 hpos
  have hw0 := hn.word 0 hpos
  have hl0 := plain_first hn
  -- the state machine over name, attributes and end
  have hmain : namedV t (⟨#[60]⟩ ++ slashW kd : ByteArray).size kd = ⟨kd, (writeW kd nm l sg).size, nm, l, sg, true⟩ := by
    rw [← refNamed_eq t _ kd (by omega)]
    unfold refNamed st0
    rw [words0 t kd false ⟨#[]⟩ ⟨#[]⟩ 0 [] nm.size _ ⟨#[]⟩ hsz fun j hj => by rw [hnb j hj]; exact hn.word j hj]
    rw [hpc, empty_append]
    obtain ⟨k', sl', nm', vl', q', hk', hs', he⟩ := attrs_read t kd nm l (headW kd nm) 0 (.inl rfl) false (fun _ => rfl) ⟨#[]⟩ ⟨#[]⟩ 0 [] hpb ha
    have hz : (headW kd nm).size = (⟨#[60]⟩ ++ slashW kd : ByteArray).size + nm.size := by unfold headW; rw [ByteArray.size_append]
    rw [← hz, he, List.nil_append]
    exact end_read t kd nm _ sg k' hk' sl' hs' nm' vl' q' l hp
  have hlow : ∀ c, WordC c → c ≠ 33 ∧ c ≠ 63 ∧ c ≠ 47 := fun c h => by unfold WordC at h; omega
  have hrd : readV t 0 = headV t := by
    unfold readV
    rw [if_neg (by
      rintro (h | h | h)
      · exact absurd h (by decide)
      · rw [ByteArray.size_append, z60] at hsz; omega
      · exact h h60)]
    rw [show Int.toNat 0 = 0 from rfl]
    congr 1
    apply ByteArray.ext
    simp
  rw [hrd]
  have hcom : byt t 1 ≠ 33 → ¬ isCom t = true := fun h hc => h ((isCom_iff t).1 hc).2.2.1
  rcases hk with rfl | rfl
  · have hz1 : (⟨#[60]⟩ ++ slashW 0 : ByteArray).size = 1 := rfl
    rw [hz1] at hmain hf hsz
    rw [Nat.add_zero] at hf
    rw [← hf] at hw0 hl0
    obtain ⟨m1, m2, m3⟩ := hlow _ hw0
    unfold headV
    rw [if_neg (hcom m1), if_neg (fun h => m3 h.1), if_neg (fun h => h.elim m1 fun h => h.elim m2 m3), if_pos hl0, hmain]
  · have hz1 : (⟨#[60]⟩ ++ slashW 1 : ByteArray).size = 2 := rfl
    have h47 : byt t 1 = 47 := by
      have := hps.2 1 (by rw [hz1]; omega)
      rw [this]; rfl
    rw [hz1] at hmain hf hsz
    rw [Nat.add_zero] at hf
    rw [← hf] at hl0
    unfold headV
    rw [if_neg (hcom (by rw [h47]; decide)), if_pos ⟨h47, by omega, hl0⟩, hmain]
end Go.Proofs.Ytpkbmgpbagdalaa
