/- The document's model: may an event come, but for what the map has: the contract. -/
import Derived.Test.YtlhnepjidbofnaaDoorMdlX
namespace Go.Mdl
open Go.Vx Go.Vc Go.Proofs Go.Txt

def riseN (l : List ByteArray) : Prop := ∀ i s t, l[i]? = some s → l[i + 1]? = some t → lessS s t = true
open Classical in
noncomputable def formP (ops : List OpS) (o : OpX) (x : AnX) : Prop :=
  if x.e = 0 then (if o.k = 4 then (∀ s ∈ x.names, calledS ops s) ∧ riseN x.names ∧ x.size = 0 ∧ x.data.size = 0 else x.names = [] ∧ (o.k = 2 ∨ x.data.size = 0) ∧ (o.k = 5 ∨ x.size = 0))
  else plainX x ∧ (if x.e = 13 then True else if x.e = 11 ∨ x.e = 12 then o.k = 1 ∨ o.k = 6 else if x.e = 9 then o.k = 1 else if x.e = 10 then o.k ≠ 1 ∧ o.k ≠ 4 else False)
/-- An answer, but for what the map has. -/
noncomputable def ansP (ops : List OpS) (o : OpS) (x : AnX) : Prop := (o.began = true ∧ formP ops o.op x) ∨ (o.began = false ∧ x.e ≠ 0 ∧ x.e = checkX o.op ∧ plainX x)
noncomputable def orderP (ops : List OpS) (e : EvX) : Prop :=
  (e.kind = 1 ∧ e.id = ops.length) ∨ (e.kind ≠ 1 ∧ 0 ≤ e.id ∧ ∃ o, ops[e.id.toNat]? = some o ∧ o.over = false ∧
    ((e.kind = 2 ∧ o.began = false ∧ ¬ busyX ops ∧ o.op = e.op ∧ checkX e.op = 0) ∨ (e.kind = 3 ∧ ansP ops o e.an) ∨ e.kind = 4))
theorem orderP_at {ops : List OpS} {e : EvX} {i : Nat} {o : OpS} (hk : e.kind ≠ 1) (hi : e.id = i) (ho : ops[i]? = some o) : orderP ops e ↔ o.over = false ∧ ((e.kind = 2 ∧ o.began = false ∧ ¬ busyX ops ∧ o.op = e.op ∧ checkX e.op = 0) ∨ (e.kind = 3 ∧ ansP ops o e.an) ∨ e.kind = 4) := by
  unfold orderP
  rw [hi, Int.toNat_natCast, ho]
  constructor
  · rintro (⟨h, _⟩ | ⟨_, _, o', ho', h⟩)
    · exact (hk h).elim
    · cases ho'; exact h
  · intro h
    exact .inr ⟨hk, by omega, o, rfl, h⟩
theorem opsW_set {H : PHeap} {vs : List OsV} {ops : List OpS} (h : OpsW H vs ops) {i : Nat} {v v' : OsV} {g : OpS → OpS} (hv : vs[i]? = some v) (hg : ∀ o, OsW H v o → OsW H v' (g o)) : OpsW H (vs.set i v') (ops.modify i g) := by
  refine ⟨by simp [h.1], fun j u o hu ho => ?_⟩
  rw [List.getElem?_modify] at ho
  by_cases e : i = j
  · subst e
    have hlt := (List.getElem?_eq_some_iff.1 hv).1
    rw [List.getElem?_set_self hlt] at hu
    cases hu
    cases ho' : ops[i]? with
    | none => rw [ho'] at ho; simp at ho
    | some o' => rw [ho'] at ho; simp at ho; subst ho; exact hg o' (h.2 i v o' hv ho')
  · rw [List.getElem?_set_ne e] at hu
    simp only [if_neg e] at ho
    exact h.2 j u o hu (by simpa using ho)
end Go.Mdl
