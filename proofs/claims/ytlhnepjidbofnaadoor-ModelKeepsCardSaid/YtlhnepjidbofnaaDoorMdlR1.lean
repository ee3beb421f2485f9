/- The document's model: what events mean for a name: the contract of 'steps'. -/
import Derived.Test.YtlhnepjidbofnaaDoorMdlZ
namespace Go.Mdl
open Go.Vx Go.Vc Go.Proofs Go.Txt

structure SpX where
  kind : Int
  op : OpX
  an : AnX
structure SpV where
  kind : Int
  op : OpV
  an : AnV
def pE (v : SpV) : List Value := [.int .i64 v.kind, .int .i64 v.op.k, .string v.op.s, .slice v.op.a v.op.n v.op.c, .int .i64 v.an.e, .int .i64 v.an.size, .slice v.an.d.a v.an.d.n v.an.d.c, .slice v.an.n.a v.an.n.n v.an.n.c]
theorem pLen (v : SpV) : (pE v).length = 8 := rfl
theorem pOne (v : SpV) : ∀ u ∈ pE v, u.oneCell' = true := fun u hu => by simp [pE] at hu; rcases hu with rfl | rfl | rfl | rfl | rfl | rfl | rfl | rfl <;> rfl
structure SpR (H : PHeap) (v : SpV) (x : SpX) : Prop where
  kind : v.kind = x.kind
  op : OpW H v.op x.op
  an : AnR H v.an x.an
  small : v.an.n.n ≤ 1000
theorem SpR.mono {H H' : PHeap} {v : SpV} {x : SpX} (hs : Sub H H') (h : SpR H v x) : SpR H' v x := ⟨h.kind, h.op.mono hs, h.an.mono hs, h.small⟩
def SpsR (H : PHeap) (vs : List SpV) (xs : List SpX) : Prop := vs.length = xs.length ∧ ∀ (i : Nat) (v : SpV) (x : SpX), vs[i]? = some v → xs[i]? = some x → SpR H v x
theorem SpsR.mono {H H' : PHeap} {vs : List SpV} {xs : List SpX} (hs : Sub H H') (h : SpsR H vs xs) : SpsR H' vs xs := ⟨h.1, fun i v x a b => (h.2 i v x a b).mono hs⟩
theorem SpsR.add {H : PHeap} {vs : List SpV} {xs : List SpX} (h : SpsR H vs xs) {v : SpV} {x : SpX} (hx : SpR H v x) : SpsR H (vs ++ [v]) (xs ++ [x]) := by
  refine ⟨by simp [h.1], fun i v' x' hv hx' => ?_⟩
  by_cases hi : i < vs.length
  · rw [List.getElem?_append_left hi] at hv
    rw [List.getElem?_append_left (by have := h.1; omega)] at hx'
    exact h.2 i v' x' hv hx'
  · rw [List.getElem?_append_right (by omega)] at hv
    rw [List.getElem?_append_right (by have := h.1; omega)] at hx'
    have hi1 := (List.getElem?_eq_some_iff.1 hv).1
    simp only [List.length_singleton] at hi1
    have ei : i = vs.length := by omega
    subst ei
    rw [h.1] at hx'
    simp at hv hx'
    subst hv hx'
    exact hx
/-- Events that are read. -/
structure EvL (H : PHeap) (a : Option Addr) (n : Nat) (l : List EvX) : Prop where
  out : ∃ vs, RdL H evE 10 a n vs ∧ vs.length = l.length ∧ ∀ (i : Nat) (v : EvW) (x : EvX), vs[i]? = some v → l[i]? = some x → EvR H v x
  dat : ∀ e ∈ l, e.op.d.size ≤ 1000000 ∧ (∀ s ∈ e.an.names, s.size ≤ 1000000) ∧ e.op.s.size ≤ 1000000
theorem EvR.mono {H H' : PHeap} {v : EvW} {x : EvX} (hs : Sub H H') (h : EvR H v x) : EvR H' v x := ⟨h.kind, h.id, h.op.mono hs, h.an.mono hs, h.small⟩
theorem EvL.mono {H H' : PHeap} {a : Option Addr} {n : Nat} {l : List EvX} (hs : Sub H H') (h : EvL H a n l) : EvL H' a n l := by
  obtain ⟨vs, h1, h2, h3⟩ := h.out; exact ⟨⟨vs, h1.mono hs, h2, fun i v x a b => (h3 i v x a b).mono hs⟩, h.dat⟩
theorem EvL.len {H : PHeap} {a : Option Addr} {n : Nat} {l : List EvX} (h : EvL H a n l) : l.length = n := by
  obtain ⟨vs, h1, h2, _⟩ := h.out; rw [← h2, h1.len]
theorem EvL.at {H : PHeap} {a : Option Addr} {n : Nat} {l : List EvX} (h : EvL H a n l) {i : Nat} {e : EvX} (he : l[i]? = some e) : ∃ v, EvR H v e ∧ Reads H (elemA a (i : Int) 10) (evE v) ∧ Ob (a ≠ none ∧ 0 ≤ (i : Int) ∧ (i : Int) < n) ∧ Ob (elemA a (i : Int) 10 ≠ none) := by
  obtain ⟨vs, h1, h2, h3⟩ := h.out
  have hi := (List.getElem?_eq_some_iff.1 he).1
  have hl := h.len
  obtain ⟨v, hv, hr⟩ := h1.ex (i := (i : Int)) (by omega) (by omega)
  rw [Int.toNat_natCast] at hv
  exact ⟨v, h3 i v e hv he, hr, h1.ob (by omega) (by omega), ⟨h1.elem_ne (by omega) (by omega)⟩⟩
def an0 : AnX := ⟨0, 0, ⟨#[]⟩, []⟩
def op0 : OpX := ⟨0, ⟨#[]⟩, ⟨#[]⟩⟩
open Classical in
noncomputable def evStepO (ops : List OpS) (name : ByteArray) (o : OpS) (e : EvX) : List SpX :=
  if 2 < e.kind ∧ o.began = true then (if o.op.k ≠ 4 ∧ o.op.s = name then (if (o.op.k = 1 ∨ o.op.k = 3) ∧ (e.kind = 4 ∨ e.an.e = 13) then [⟨1, o.op, an0⟩] else if e.kind = 3 then [⟨2, o.op, e.an⟩] else [])
    else if o.op.k = 4 ∧ e.kind = 3 ∧ e.an.e = 0 ∧ calledS ops name then [⟨3, op0, e.an⟩] else []) else []
/-- What an event means for a name. -/
noncomputable def evStep (ops : List OpS) (name : ByteArray) (e : EvX) : List SpX := match ops[e.id.toNat]? with
  | some o => evStepO ops name o e
  | none => []
def opsAt (l : List EvX) (i : Nat) : List OpS := (l.take i).foldl stepOps []
def okAt (l : List EvX) (i : Nat) : Prop := ∀ j e, j < i → l[j]? = some e → orderP (opsAt l j) e
noncomputable def stsAt (l : List EvX) (name : ByteArray) (i : Nat) : List SpX := (List.range i).flatMap fun j => match l[j]? with | some e => evStep (opsAt l j) name e | none => []
theorem opsAt_succ {l : List EvX} {i : Nat} {e : EvX} (he : l[i]? = some e) : opsAt l (i + 1) = stepOps (opsAt l i) e := by
  unfold opsAt; rw [List.take_add_one, he]; simp
theorem okAt_succ {l : List EvX} {i : Nat} {e : EvX} (he : l[i]? = some e) : okAt l (i + 1) ↔ okAt l i ∧ orderP (opsAt l i) e := by
  constructor
  · exact fun h => ⟨fun j x hj hx => h j x (by omega) hx, h i e (by omega) he⟩
  · rintro ⟨h1, h2⟩ j x hj hx
    by_cases e1 : j = i
    · subst e1; rw [he] at hx; cases hx; exact h2
    · exact h1 j x (by omega) hx
theorem stsAt_succ {l : List EvX} {name : ByteArray} {i : Nat} {e : EvX} (he : l[i]? = some e) : stsAt l name (i + 1) = stsAt l name i ++ evStep (opsAt l i) name e := by
  unfold stsAt; rw [List.range_succ, List.flatMap_append]; simp [he]
theorem evStep_len (ops : List OpS) (name : ByteArray) (e : EvX) : (evStep ops name e).length ≤ 1 := by
  unfold evStep
  split
  · unfold evStepO; repeat' split
    all_goals simp
  · simp
theorem stsAt_len {l : List EvX} {name : ByteArray} : ∀ i, (stsAt l name i).length ≤ i
  | 0 => by simp [stsAt]
  | i + 1 => by
    have := stsAt_len (l := l) (name := name) i
    unfold stsAt at this ⊢
    rw [List.range_succ, List.flatMap_append, List.length_append]
    simp only [List.flatMap_cons, List.flatMap_nil, List.append_nil]
    split
    · rename_i e _
      have := evStep_len (opsAt l i) name e; omega
    · simp only [List.length_nil]; omega
theorem stepOps_len {ops : List OpS} {e : EvX} : (stepOps ops e).length ≤ ops.length + 1 := by
  unfold stepOps; repeat' split
  all_goals simp
theorem opsAt_len {l : List EvX} : ∀ i, (opsAt l i).length ≤ i
  | 0 => by simp [opsAt]
  | i + 1 => by
    cases he : l[i]? with
    | some e => rw [opsAt_succ he]; have := stepOps_len (ops := opsAt l i) (e := e); have := opsAt_len (l := l) i; omega
    | none =>
      have e1 : opsAt l (i + 1) = opsAt l i := by unfold opsAt; rw [List.take_add_one, he]; simp
      rw [e1]; have := opsAt_len (l := l) i; omega
theorem mem_modify {α : Type} {l : List α} {i : Nat} {g : α → α} {o : α} (h : o ∈ l.modify i g) : o ∈ l ∨ ∃ o' ∈ l, o = g o' := by
  obtain ⟨j, hj⟩ := List.mem_iff_getElem?.1 h
  rw [List.getElem?_modify] at hj
  cases hl : l[j]? with
  | none => rw [hl] at hj; simp at hj
  | some x =>
    rw [hl] at hj; simp at hj
    have := List.mem_of_getElem? hl
    split at hj
    · exact .inr ⟨x, this, hj.symm⟩
    · exact .inl (by subst hj; exact this)
theorem opsAt_op {l : List EvX} : ∀ i, ∀ o ∈ opsAt l i, ∃ e ∈ l, e.kind = 1 ∧ o.op = e.op
  | 0, o, h => by simp [opsAt] at h
  | i + 1, o, h => by
    have ih := opsAt_op (l := l) i
    cases he : l[i]? with
    | some e =>
      rw [opsAt_succ he] at h
      have hm : ∀ g : OpS → OpS, (∀ o, (g o).op = o.op) → o ∈ (opsAt l i).modify e.id.toNat g → ∃ e ∈ l, e.kind = 1 ∧ o.op = e.op := fun g hg h => by
        rcases mem_modify h with h | ⟨o', h, e⟩
        · exact ih o h
        · rw [e, hg]; exact ih o' h
      unfold stepOps at h
      split at h
      · rcases List.mem_append.1 h with h | h
        · exact ih o h
        · simp at h; exact ⟨e, List.mem_of_getElem? he, by assumption, by rw [h]⟩
      · split at h
        · exact hm beginS (fun _ => rfl) h
        · exact hm overS (fun _ => rfl) h
    | none =>
      have e1 : opsAt l (i + 1) = opsAt l i := by unfold opsAt; rw [List.take_add_one, he]; simp
      rw [e1] at h; exact ih o h
end Go.Mdl
