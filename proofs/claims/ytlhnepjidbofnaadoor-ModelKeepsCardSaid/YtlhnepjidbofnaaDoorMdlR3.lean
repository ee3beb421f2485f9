/- The document's model: all that may be is walked: the contract. -/
import Derived.Test.YtlhnepjidbofnaaDoorMdlR2
namespace Go.Mdl
open Go.Vx Go.Vc Go.Proofs Go.Txt

/-- What a step makes of a possibility. -/
noncomputable def sF (s : SpX) (x : Ch) : Option Ch :=
  if s.kind = 1 then some (addF (decide (s.op.k = 1), s.op.d) x) else if s.kind = 3 then fS s.an.names s.op.s x
  else if s.an.e = 9 then thereF x else if s.an.e = 10 then noneF x else if s.an.e = 0 then
    (if s.op.k = 2 then getF s.an.data x else if s.op.k = 5 then statF s.an.size x else if s.op.k = 1 then putF s.op.d x else if s.op.k = 3 then delF x else thereF x)
  else some x
def W : List SpX → Ch → Ch → Prop
  | [], x, z => Reach x z
  | s :: l, x, z => ∃ y, Reach x y ∧ ∃ g, sF s y = some g ∧ W l g z
theorem Reach.head {x y z : Ch} (h : y ∈ nextL x) (hr : Reach y z) : Reach x z := by
  induction hr with
  | refl => exact .step .refl h
  | step _ h2 ih => exact .step ih h2
theorem Reach.split {x z : Ch} (h : Reach x z) : z = x ∨ ∃ y ∈ nextL x, Reach y z := by
  induction h with
  | refl => exact .inl rfl
  | step h1 h2 ih =>
    rcases ih with rfl | ⟨y, hy, hr⟩
    · exact .inr ⟨_, h2, .refl⟩
    · exact .inr ⟨y, hy, .step hr h2⟩
theorem W_next {l : List SpX} {x y z : Ch} (h : y ∈ nextL x) (hw : W l y z) : W l x z := by
  cases l with
  | nil => exact Reach.head h hw
  | cons s l => obtain ⟨w, h1, h2⟩ := hw; exact ⟨w, Reach.head h h1, h2⟩
theorem W_nil {x z : Ch} : W [] x z ↔ (∃ y ∈ nextL x, W [] y z) ∨ z = x := by
  constructor
  · exact fun h => (Reach.split h).symm
  · rintro (⟨y, hy, h⟩ | rfl)
    · exact W_next hy h
    · exact .refl
theorem W_cons {s : SpX} {l : List SpX} {x z : Ch} : W (s :: l) x z ↔ (∃ y ∈ nextL x, W (s :: l) y z) ∨ ∃ g, sF s x = some g ∧ W l g z := by
  constructor
  · rintro ⟨w, h1, h2⟩
    rcases Reach.split h1 with rfl | ⟨y, hy, hr⟩
    · exact .inr h2
    · exact .inl ⟨y, hy, w, hr, h2⟩
  · rintro (⟨y, hy, h⟩ | h)
    · exact W_next hy h
    · exact ⟨x, .refl, h⟩
/-- A copy. -/
theorem copyK {t e : TypeId} {sz bytes : Nat} (T : ElemT Tryd.prog t e sz bytes) {α : Type} {E : α → List Value} (hE : ∀ x, (E x).length = sz) (h1 : ∀ x, ∀ u ∈ E x, u.oneCell' = true) {H : PHeap} {a : Option Addr} {n c : Nat} {vs : List α} (hr : RdL H E sz a n vs) (hn : n ≤ 100000) (hb : bytes ≤ 1000) {k : Nat} (hk : H k = none) {K : Value → PHeap → Prop}
    (hK : ∀ a' c' H', OwnL H' e E sz a' n c' vs → Sub H H' → Off H a' → K (.slice a' n c') H') : EvV Tryd.prog (Builtin.append_ #[t, t] t #[.slice (at0 k) 0 0, .slice a n c]) (H.upd k (.cells #[] e (0, 0))) K := by
  have hsk := Sub.upd (.cells #[] e (0, 0)) hk
  have hoffk : Off H (at0 k) := fun a ha => by cases ha; exact hk
  refine append_rd T (E := E) (sz := sz) (l := []) (l2 := vs) hE ⟨by simp, .inr ⟨k, #[], rfl, upd_eq .., Nat.le_refl _, Nat.zero_le _, by simp, by simp⟩⟩ (hr.mono hsk) h1 (by simp [maxLen]; omega) (Nat.le_trans (Nat.mul_le_mul (show 0 + n ≤ 100000 by omega) hb) (by omega)) ?_
  intro b k' H2 how hf hfr
  rw [List.nil_append] at how
  rw [Nat.zero_add] at how ⊢
  exact hK b k' H2 how (hf.sub hsk hoffk) (hfr.off hsk hoffk)
theorem fl_rd {H : PHeap} {a : Option Addr} {f : Fl} (h : Reads H a (fE f)) : Reads H (fldA a 0) [.bool f.1] ∧ Reads H (fldA a 1) [.string f.2] := by
  refine ⟨h.fld 0 fun j u hu => ?_, h.fld 1 fun j u hu => ?_⟩
  · match j, hu with
    | 0, hu => exact hu
    | j + 1, hu => simp at hu
  · match j, hu with
    | 0, hu => exact hu
    | j + 1, hu => simp at hu
def Ends (A : Fl → Prop) (l : List SpX) (x : Ch) (e : Fl) : Prop := A e ∨ ∃ z, W l x z ∧ e = (z.p, z.d)
end Go.Mdl
