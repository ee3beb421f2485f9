/- The document's model: what may be of a name: the contract of 'Of'. -/
import Derived.Test.YtlhnepjidbofnaaDoorMdlR3
namespace Go.Mdl
open Go.Vx Go.Vc Go.Proofs Go.Txt

theorem fld_fld (a : Option Addr) (i j : Nat) : fldA (fldA a i) j = fldA a (i + j) := by
  cases a with
  | none => rfl
  | some a => simp only [fldA, Option.map_some, Option.some.injEq, Addr.add]; grind
/-- A step of a list has the name. -/
def nm (name : ByteArray) (s : SpX) : SpX := if s.kind = 3 then ⟨s.kind, ⟨s.op.k, name, s.op.d⟩, s.an⟩ else s
def nameAt (name : ByteArray) (xs : List SpX) : Nat → List SpX
  | 0 => xs
  | i + 1 => (nameAt name xs i).modify i (nm name)
theorem nameAt_get (name : ByteArray) (xs : List SpX) : ∀ i j, (nameAt name xs i)[j]? = if j < i then xs[j]?.map (nm name) else xs[j]?
  | 0, j => by simp [nameAt]
  | i + 1, j => by
    unfold nameAt
    rw [List.getElem?_modify, nameAt_get name xs i j]
    by_cases h1 : j < i
    · simp [h1, show ¬ i = j by omega, show j < i + 1 by omega]
    · by_cases h2 : i = j
      · subst h2; simp
      · simp [h1, h2, show ¬ j < i + 1 by omega]
theorem nameAt_all {name : ByteArray} {xs : List SpX} {n : Nat} (h : xs.length ≤ n) : nameAt name xs n = xs.map (nm name) := by
  refine List.ext_getElem? fun j => ?_
  rw [nameAt_get, List.getElem?_map]
  by_cases h1 : j < n
  · rw [if_pos h1]
  · rw [if_neg h1, List.getElem?_eq_none (by omega)]; rfl
theorem nameAt_len (name : ByteArray) (xs : List SpX) : ∀ i, (nameAt name xs i).length = xs.length
  | 0 => rfl
  | i + 1 => by unfold nameAt; rw [List.length_modify, nameAt_len name xs i]
theorem SpsR.set {H : PHeap} {vs : List SpV} {xs : List SpX} (h : SpsR H vs xs) {i : Nat} {v' : SpV} {g : SpX → SpX} (hi : i < vs.length) (hg : ∀ x, xs[i]? = some x → SpR H v' (g x)) : SpsR H (vs.set i v') (xs.modify i g) := by
  refine ⟨by simp [h.1], fun j u o hu ho => ?_⟩
  rw [List.getElem?_modify] at ho
  by_cases e : i = j
  · subst e
    rw [List.getElem?_set_self hi] at hu
    cases hu
    cases ho' : xs[i]? with
    | none => rw [ho'] at ho; simp at ho
    | some o' => rw [ho'] at ho; simp at ho; subst ho; exact hg o' ho'
  · rw [List.getElem?_set_ne e] at hu
    simp only [if_neg e] at ho
    exact h.2 j u o hu (by simpa using ho)
/-- The steps of a name. -/
noncomputable def stsN (l : List EvX) (name : ByteArray) (n : Nat) : List SpX := (stsAt l name n).map (nm name)
/-- What may be of a name. -/
def OfA (l : List EvX) (name : ByteArray) (n : Nat) (e : Fl) : Prop := okAt l n ∧ ∃ z, W (stsN l name n) c0 z ∧ e = (z.p, z.d)
end Go.Mdl
