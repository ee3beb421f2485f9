/- Plain law: what the map has behind an event is what the document's steps tell. -/
import Derived.Test.YtlhnepjidbofnaaDoorMdlR5
namespace Go.Mdl
open Go.Vx Go.Vc Go.Proofs Go.Txt

theorem sF_float {op : OpX} {an : AnX} : sF ⟨1, op, an⟩ = fun x => some (addF (decide (op.k = 1), op.d) x) := by funext x; unfold sF; rw [if_pos rfl]
theorem sF_list {op : OpX} {an : AnX} : sF ⟨3, op, an⟩ = fS an.names op.s := by funext x; unfold sF; rw [if_neg (by simp), if_pos rfl]
theorem sF_ans {op : OpX} {an : AnX} : sF ⟨2, op, an⟩ = fun x => if an.e = 9 then thereF x else if an.e = 10 then noneF x else if an.e = 0 then
    (if op.k = 2 then getF an.data x else if op.k = 5 then statF an.size x else if op.k = 1 then putF op.d x else if op.k = 3 then delF x else thereF x) else some x := by
  funext x; unfold sF; rw [if_neg (by simp), if_neg (by simp)]
/-- What a name has behind a step. -/
def nxt (t : ByteArray) (l : List SpX) (A : Ch → Prop) (z : Ch) : Prop := match l with
  | [] => A z
  | s :: _ => keepR (sF (nm t s)) A z
def ClosedR (R : Poss) : Prop := ∀ s y z, R s y → Reach y z → R s z
theorem keep_some {R : Poss} (h : ClosedR R) (t : ByteArray) (z : Ch) : keepR (fun x => some x) (R t) z ↔ R t z := by
  constructor
  · rintro ⟨y, hy, g, hg, hr⟩; cases hg; exact h t y z hy hr
  · exact fun hz => ⟨z, hz, z, rfl, .refl⟩
theorem drift_keep (f : Fl) (A : Ch → Prop) (z : Ch) : keepR (fun x => some (addF f x)) A z ↔ driftR f A z := by
  constructor
  · rintro ⟨y, hy, g, hg, hr⟩; cases hg; exact ⟨y, hy, hr⟩
  · rintro ⟨y, hy, hr⟩; exact ⟨y, hy, _, rfl, hr⟩
theorem setR_self {R : Poss} {s : ByteArray} {A : Ch → Prop} {z : Ch} : setR R s A s z ↔ A z := by unfold setR; simp
theorem setR_ne {R : Poss} {s t : ByteArray} {A : Ch → Prop} {z : Ch} (h : t ≠ s) : setR R s A t z ↔ R t z := by unfold setR; simp [h]
theorem drift_nxt {R : Poss} {o : OpX} {t : ByteArray} {z : Ch} : driftO R o t z ↔ if (o.k = 1 ∨ o.k = 3) ∧ o.s = t then driftR (decide (o.k = 1), o.d) (R t) z else R t z := by
  unfold driftO
  by_cases h : o.k = 1 ∨ o.k = 3
  · rw [if_pos h]
    by_cases e : o.s = t
    · subst e; rw [setR_self, if_pos ⟨h, rfl⟩]
    · rw [setR_ne (fun h => e h.symm), if_neg (fun h => e h.2)]
  · rw [if_neg h, if_neg (fun hh => h hh.1)]
theorem fits_other {ops : List OpS} {R : Poss} {o : OpX} {x : AnX} {t : ByteArray} {z : Ch} (hk4 : o.k ≠ 4) (hk : 1 ≤ o.k ∧ o.k ≤ 6) (ht : o.s ≠ t) : fitsR ops R o x t z ↔ R t z := by
  have ht' : t ≠ o.s := fun e => ht e.symm
  have hn : ¬ ((o.k = 1 ∨ o.k = 3) ∧ o.s = t) := fun h => ht h.2
  unfold fitsR doneR keepS
  split
  · repeat' split
    all_goals first | exact setR_ne ht' | omega
  · split
    · rw [drift_nxt, if_neg hn]
    · repeat' split
      all_goals first | exact setR_ne ht' | exact Iff.rfl
theorem fits_nxt {ops : List OpS} {R : Poss} {o : OpX} {t : ByteArray} {z : Ch} {ov : Bool} {e : EvX} (hc : ClosedR R) (hk : 1 ≤ o.k ∧ o.k ≤ 6) (hf : formP ops o e.an) (h3 : e.kind = 3) :
    fitsR ops R o e.an t z ↔ nxt t (evStepO ops t ⟨o, true, ov⟩ e) (R t) z := by
  have k2 : 2 < e.kind ∧ true = true := ⟨by omega, rfl⟩
  have k4 : ¬ e.kind = 4 := by omega
  unfold evStepO
  rw [if_pos k2]
  by_cases o4 : o.k = 4
  · rw [if_neg (fun h => h.1 o4)]
    by_cases x0 : e.an.e = 0
    · have e1 : fitsR ops R o e.an = listR ops e.an.names R := by
        unfold fitsR doneR
        rw [if_pos x0]
        simp [o4]
      rw [e1]
      unfold listR
      by_cases hcl : calledS ops t
      · rw [if_pos ⟨o4, h3, x0, hcl⟩]
        have e2 : nm t ⟨3, op0, e.an⟩ = ⟨3, ⟨0, t, ⟨#[]⟩⟩, e.an⟩ := rfl
        unfold nxt
        simp only [e2, sF_list]
        simp [hcl]
      · rw [if_neg (fun h => hcl h.2.2.2)]
        simp [hcl, nxt]
    · rw [if_neg (fun h => x0 h.2.2.1)]
      have h13 : e.an.e = 13 := by
        unfold formP at hf
        rw [if_neg x0] at hf
        have := hf.2
        grind
      unfold fitsR
      rw [if_neg x0, if_pos h13, drift_nxt, if_neg (fun h => by omega)]
      rfl
  · by_cases ht : o.s = t
    · rw [if_pos ⟨o4, ht⟩]
      by_cases hfl : (o.k = 1 ∨ o.k = 3) ∧ (e.kind = 4 ∨ e.an.e = 13)
      · rw [if_pos hfl]
        have h13 : e.an.e = 13 := hfl.2.resolve_left k4
        have e2 : nm t ⟨1, o, an0⟩ = ⟨1, o, an0⟩ := rfl
        unfold nxt
        simp only [e2, sF_float]
        rw [drift_keep]
        unfold fitsR
        rw [if_neg (by omega), if_pos h13, drift_nxt, if_pos ⟨hfl.1, ht⟩]
      · rw [if_neg hfl, if_pos h3]
        have e2 : nm t ⟨2, o, e.an⟩ = ⟨2, o, e.an⟩ := rfl
        unfold nxt
        simp only [e2, sF_ans]
        subst ht
        unfold fitsR
        by_cases x0 : e.an.e = 0
        · rw [if_pos x0]
          have n9 : ¬ e.an.e = 9 := by omega
          have n10 : ¬ e.an.e = 10 := by omega
          simp only [if_neg n9, if_neg n10, if_pos x0]
          unfold doneR keepS
          have : o.k = 1 ∨ o.k = 2 ∨ o.k = 3 ∨ o.k = 5 ∨ o.k = 6 := by omega
          rcases this with h | h | h | h | h <;> simp [h, setR_self]
        · rw [if_neg x0]
          by_cases x13 : e.an.e = 13
          · rw [if_pos x13, drift_nxt, if_neg (fun h => hfl ⟨h.1, .inr x13⟩)]
            have n9 : ¬ e.an.e = 9 := by omega
            have n10 : ¬ e.an.e = 10 := by omega
            simp only [if_neg n9, if_neg n10, if_neg x0]
            exact (keep_some hc _ _).symm
          · rw [if_neg x13]
            by_cases x11 : e.an.e = 11 ∨ e.an.e = 12
            · rw [if_pos x11]
              have n9 : ¬ e.an.e = 9 := by omega
              have n10 : ¬ e.an.e = 10 := by omega
              simp only [if_neg n9, if_neg n10, if_neg x0]
              exact (keep_some hc _ _).symm
            · rw [if_neg x11]
              by_cases x9 : e.an.e = 9
              · simp only [if_pos x9]; unfold keepS; rw [setR_self]
              · have x10 : e.an.e = 10 := by
                  unfold formP at hf
                  rw [if_neg x0] at hf
                  have := hf.2
                  grind
                simp only [if_neg x9, if_pos x10]; unfold keepS; rw [setR_self]
    · rw [if_neg (fun h => ht h.2), if_neg (fun h => o4 h.1), fits_other o4 hk ht]
      rfl
end Go.Mdl
