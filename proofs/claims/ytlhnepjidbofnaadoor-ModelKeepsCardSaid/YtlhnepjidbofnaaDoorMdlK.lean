/- A list's answer: the contract. -/
import Derived.Test.YtlhnepjidbofnaaDoorMdlJ
namespace Go.Mdl
open Go.Vx Go.Vc Go.Proofs

/-- Was a name called? -/
def calledS (ops : List OpS) (s : ByteArray) : Prop := ∃ o ∈ ops, o.op.k ≠ 4 ∧ o.op.s = s
open Classical in
noncomputable def fS (names : List ByteArray) (s : ByteArray) : Ch → Option Ch := if s ∈ names then thereF else noneF
def listR (ops : List OpS) (names : List ByteArray) (R : Poss) : Poss := fun s z => (calledS ops s ∧ keepR (fS names s) (R s) z) ∨ (¬ calledS ops s ∧ R s z)
structure okL (ops : List OpS) (R : Poss) (size : Int) (dl : Nat) (names : List ByteArray) : Prop where
  sz : size = 0
  dl : dl = 0
  up : UpS names
  ap : ApS names
  called : ∀ s ∈ names, calledS ops s
  some : ∀ s, calledS ops s → ∃ y, R s y ∧ (fS names s y).isSome
/-- All rows of texts and of what is told, and one block more. -/
def froz (F H : PHeap) (k : Nat) : PHeap := fun b => if b = k then H b else match H b with
  | some (.cells c t r) => if t = 62 ∨ t = 71 ∨ t = 5 ∨ t = 9 then some (.cells c t r) else F b
  | _ => F b
theorem froz_sub {F H : PHeap} {k : Nat} (h : Sub F H) : Sub (froz F H k) H := ⟨fun b o hb => by
  unfold froz at hb
  split at hb
  · exact hb
  · split at hb
    · rename_i c t r hk
      split at hb
      · rw [hk]; exact hb
      · exact h.le _ _ hb
    · exact h.le _ _ hb⟩
theorem froz_sup {F H : PHeap} {k : Nat} (h : Sub F H) : Sub F (froz F H k) := ⟨fun b o hb => by
  unfold froz
  split
  · exact h.le _ _ hb
  · split
    · rename_i c t r hk
      split
      · rw [← hk]; exact h.le _ _ hb
      · exact hb
    · exact hb⟩
theorem froz_ty {F H : PHeap} {k : Nat} : TyK H (froz F H k) := fun b c t r ht hk => by
  unfold froz
  split
  · exact hk
  · rw [hk]; simp only; rw [if_pos (by rcases ht with h | h | h <;> simp [h])]
theorem froz_at {F H : PHeap} {k b : Nat} {c : Array Value} {r : Nat × Nat} (hk : H b = some (.cells c 9 r)) : froz F H k b = some (.cells c 9 r) := by
  unfold froz
  split
  · exact hk
  · rw [hk]; simp
theorem froz_none {F H : PHeap} {k b : Nat} (hb : b ≠ k) (hF : F b = none) (h : ∀ c t r, H b = some (.cells c t r) → ¬ (t = 62 ∨ t = 71 ∨ t = 5 ∨ t = 9)) : froz F H k b = none := by
  unfold froz
  rw [if_neg hb]
  split
  · rename_i c t r hk
    rw [if_neg (h c t r hk)]; exact hF
  · exact hF
theorem MapK.froz {F H H0 : PHeap} {m k : Nat} {sl : SlV} {ops : List OpS} {R : Poss} (h : MapK F H0 m sl ops R) (hs : Sub H0 H) (hk : H0 k = none) : MapK (froz F H k) H m sl ops R := by
  obtain ⟨oa, n, c, vs, mr, hsl, h1, h2, h3, h4, h5⟩ := (h.mono hs).row
  obtain ⟨oa0, n0, c0, vs0, mr0, _, q1, q2, q3, q4, q5⟩ := h.row
  have e := q1.sub hs
  unfold Bx at e h1
  rw [h1] at e
  injection e with e
  injection e with e _ _
  simp at e
  obtain ⟨⟨rfl, rfl, rfl⟩, rfl⟩ := e
  have nk : ∀ {b : Nat} {o : Obj}, H0 b = some o → b ≠ k := fun {b o} hb e => by rw [e, hk] at hb; cases hb
  refine ⟨froz_sub (h.sub.trans hs), froz_none (nk q1) h.o fun c t r hk => ?_, oa, n, c, vs, mr, hsl, h1, fun a ha => ?_, h3, h4, ?_⟩
  · rw [h1] at hk; injection hk with e; injection e with _ e _; subst e; decide
  · rcases q3.row with ⟨e1, _⟩ | ⟨g, cur, e1, hg, _⟩
    · rw [e1] at ha; cases ha
    · rw [e1] at ha; cases ha
      refine froz_none (nk hg) (h2 _ e1) fun c t r hk => ?_
      have := hs.le _ _ hg
      rw [this] at hk; injection hk with e; injection e with _ e _; subst e; decide
  · obtain ⟨ml, f, g1, g2, g3⟩ := h5.out
    obtain ⟨ml0, f0, p1, _⟩ := q5.out
    refine ⟨ml, f, fun mb e => ⟨froz_none ?_ (g1 mb e).1 fun c t r hk => ?_, (g1 mb e).2⟩, g2, g3⟩
    · obtain ⟨es, ck, hq, _⟩ := (p1 mb e).2.out
      exact nk hq
    · obtain ⟨es, ck, hq, _⟩ := (g1 mb e).2.out
      rw [hq] at hk; cases hk
theorem MapK.weaken {F G H : PHeap} {m : Nat} {sl : SlV} {ops : List OpS} {R : Poss} (h : MapK G H m sl ops R) (hs : Sub F G) : MapK F H m sl ops R := by
  obtain ⟨oa, n, c, vs, mr, hsl, h1, h2, h3, h4, h5⟩ := h.row
  obtain ⟨ml, f, g1, g2⟩ := h5.out
  exact ⟨hs.trans h.sub, hs.none h.o, oa, n, c, vs, mr, hsl, h1, h2.sub hs, h3, h4, ml, f, fun mb e => ⟨hs.none (g1 mb e).1, (g1 mb e).2⟩, g2⟩
theorem kept_in {ds D : List Fl} (G : Good ds D) {A : Ch → Prop} (hA : ∀ z, A z → InU ds D z) {f : Ch → Option Ch} (hf : ∀ y g, f y = some g → g = y) {z : Ch} (h : keepR f A z) : InU ds D z := by
  obtain ⟨y, hy, g, hg, hz⟩ := h
  rw [hf y g hg] at hz
  exact reach_in G (hA y hy) hz
theorem fS_self (names : List ByteArray) (s : ByteArray) : ∀ y g, fS names s y = some g → g = y := fun y g h => by
  unfold fS at h
  split at h
  · unfold thereF at h; split at h <;> cases h; rfl
  · unfold noneF at h; split at h <;> cases h; rfl
end Go.Mdl
