/- Regions whose order is drawn: a condition behind each operation; a load may be taken first where no operation that may come ahead of it breaks what it looks at. -/
import Derived.Test.YtllbdocjgdnofaaVxH
namespace Go.Vx
section
variable {P : Program} {ops : Array Oper} {Q : Exit → Act → World → Prop}

/-- All that is listed has what it waits for listed. -/
def Closed (ops : Array Oper) (listed : Array Bool) : Prop := ∀ j o, ops[j]? = some o → listed.getD j true = true → ∀ p ∈ predsOf o, listed.getD p false = true
theorem predsOf_mem {o : Oper} {p : Nat} (h : p ∈ predsOf o) : ∃ e ∈ o.after, Region.binds .any e = true ∧ e.on = p := by
  unfold predsOf at h
  simp only [List.mem_map, List.mem_filter] at h
  obtain ⟨e, ⟨h1, h2⟩, h3⟩ := h
  exact ⟨e, by simpa using h1, h2, h3⟩
theorem mem_preds {o : Oper} {e : Edge} (h : e ∈ o.after) (hb : Region.binds .any e = true) : e.on ∈ predsOf o := by
  unfold predsOf
  exact List.mem_map.2 ⟨e, List.mem_filter.2 ⟨by simpa using h, hb⟩, rfl⟩
theorem closed_empty : Closed ops (Array.replicate ops.size false) := by
  intro j o ho hj
  have hlt := (Array.getElem?_eq_some_iff.1 ho).1
  rw [Array.getD_eq_getD_getElem?, Array.getElem?_replicate, if_pos hlt] at hj
  cases hj
theorem closed_set {listed : Array Bool} {i : Nat} (h : Closed ops listed) (hi : i ∈ Region.ready .any ops listed) : Closed ops (listed.setIfInBounds i true) := by
  intro j o ho hj p hp
  obtain ⟨_, oi, hoi, hall⟩ := mem_ready.1 hi
  by_cases e : j = i
  · subst e
    rw [hoi] at ho
    cases ho
    obtain ⟨e, he, hb, rfl⟩ := predsOf_mem hp
    exact getD_set_true (hall e he hb)
  · rw [getD_set_ne true (fun h => e h.symm)] at hj
    exact getD_set_true (h j o ho hj p hp)
theorem ancs_listed {listed : Array Bool} (hc : Closed ops listed) : ∀ (f : Nat) (st vis : List Nat), (∀ p ∈ st, listed.getD p false = true) → (∀ p ∈ vis, listed.getD p false = true) → ∀ p ∈ ancs ops f st vis, listed.getD p false = true
  | 0, _, vis, _, h2, p, hp => by
    unfold ancs at hp; exact h2 p hp
  | f + 1, [], vis, _, h2, p, hp => by
    unfold ancs at hp; exact h2 p hp
  | f + 1, j :: st, vis, h1, h2, p, hp => by
    unfold ancs at hp
    split at hp
    · exact ancs_listed hc f st vis (fun q hq => h1 q (List.mem_cons_of_mem _ hq)) h2 p hp
    · refine ancs_listed hc f _ (j :: vis) (fun q hq => ?_) (fun q hq => ?_) p hp
      · rcases List.mem_append.1 hq with hq | hq
        · split at hq
          · rename_i o ho
            refine hc j o ho ?_ q hq
            have hj := h1 j (List.mem_cons_self ..)
            rw [Array.getD_eq_getD_getElem?] at hj ⊢
            cases hl : listed[j]? with
            | none => rfl
            | some b => rw [hl] at hj; simpa using hj
          · simp at hq
        · exact h1 q (List.mem_cons_of_mem _ hq)
      · rcases List.mem_cons.1 hq with rfl | hq
        · exact h1 _ (List.mem_cons_self ..)
        · exact h2 q hq
/-- An operation that comes up ahead of a load does not wait for it. -/
theorem keepB_of {listed : Array Bool} (hc : Closed ops listed) {i j : Nat} {oi : Oper} (hi : ops[i]? = some oi) (hl : isLoad oi = true) (hun : listed.getD i true = false) (hj : j ∈ Region.ready .any ops listed) : keepB ops j = true := by
  obtain ⟨_, o, ho, hall⟩ := mem_ready.1 hj
  unfold keepB
  rw [ho]
  simp only [List.any_eq_true]
  refine ⟨i, ?_, ?_⟩
  · unfold loadsOf
    rw [List.mem_filter]
    exact ⟨List.mem_range.2 (Array.getElem?_eq_some_iff.1 hi).1, by rw [hi]; exact hl⟩
  · simp only [Bool.not_eq_true', List.contains_eq_mem, decide_eq_false_iff_not]
    intro hm
    have := ancs_listed hc 1000 (predsOf o) [] (fun p hp => by obtain ⟨e, he, hb, rfl⟩ := predsOf_mem hp; exact hall e he hb) (fun p hp => by simp at hp) i hm
    rw [Array.getD_eq_getD_getElem?] at hun this
    cases h : listed[i]? with
    | none => rw [h] at hun; simp at hun
    | some b => rw [h] at hun this; simp at hun this; rw [hun] at this; cases this

/-- Whatever order is drawn from here on, operation i leads from one world to another as T i says. -/
def wpAnyL (P : Program) (ops : Array Oper) (Q : Exit → Act → World → Prop) (T : Nat → World → World → Prop) : Nat → Array Bool → Act → World → Prop
  | 0, listed, a, w => Region.ready .any ops listed = [] ∧ Q .normal a w
  | f + 1, listed, a, w => (Region.ready .any ops listed = [] → Q .normal a w) ∧
      ∀ i ∈ Region.ready .any ops listed, wpOp P ops Q i (fun a' w' => T i w w' ∧ wpAnyL P ops Q T f (listed.setIfInBounds i true) a' w') a w
theorem wpAny_of_L {T : Nat → World → World → Prop} : ∀ (f : Nat) (listed : Array Bool) (a : Act) (w : World), wpAnyL P ops Q T f listed a w → wpAny P .any ops Q f listed a w
  | 0, _, _, _, h => h
  | f + 1, _, _, _, h => ⟨h.1, fun i hi => wpOp_mono (fun a' w' h' => wpAny_of_L f _ a' w' h'.2) (h.2 i hi)⟩
/-- What is so ahead of operation i, stays so whatever comes up ahead of it. -/
def Stays (ops : Array Oper) (T : Nat → World → World → Prop) (i : Nat) (S : World → Prop) : Prop :=
  ∀ (listed : Array Bool) (j : Nat), Closed ops listed → listed.getD i true = false → j ∈ Region.ready .any ops listed → ∀ w w', T j w w' → S w → S w'
theorem wpAnyL_first {T : Nat → World → World → Prop} {S : World → Prop} {i : Nat} {oi : Oper} {v : Value} (hi : ops[i]? = some oi) (hsel : ∀ (j : Nat) (o : Oper) cs b, ops[j]? = some o → o.op ≠ .select cs b) (hQ : ∀ c a w, ¬ Q (.panic c) a w)
    (hT : Stays ops T i S) (hTi : ∀ w, T i w w) :
    ∀ (f : Nat) (listed : Array Bool) (a : Act) (w : World), Closed ops listed →
      (∀ j oj, ops[j]? = some oj → j ≠ i → listed.getD j true = false → (∀ e ∈ oj.after, Region.binds .any e = true → e.on ≠ i) → oi.apart ops oj = true) →
      i ∈ Region.ready .any ops listed → YieldsIf P ops S oi v a → S w → wpAnyL P ops Q T f (listed.setIfInBounds i true) (a.put oi.dst v) w → wpAnyL P ops Q T (f + 1) listed a w := by
  intro f
  induction f with
  | zero =>
    intro listed a w hc _ hr hy hS H
    refine ⟨fun h => (by rw [h] at hr; cases hr), fun j hj => ?_⟩
    by_cases hji : j = i
    · subst hji
      exact hy.wpOp hi hS ⟨hTi w, H⟩
    · have := ready_mono hj hji
      rw [H.1] at this
      cases this
  | succ f ih =>
    intro listed a w hc hfree hr hy hS H
    refine ⟨fun h => (by rw [h] at hr; cases hr), fun j hj => ?_⟩
    by_cases hji : j = i
    · subst hji
      exact hy.wpOp hi hS ⟨hTi w, H⟩
    obtain ⟨hiun, oi', hoi', hiall⟩ := mem_ready.1 hr
    obtain ⟨hjun, oj, hoj, hall⟩ := mem_ready.1 hj
    have hno : ∀ e ∈ oj.after, Region.binds .any e = true → e.on ≠ i := by
      intro e he hb heq
      have h1 := hall e he hb
      rw [heq, Array.getD_eq_getD_getElem?] at h1
      rw [Array.getD_eq_getD_getElem?] at hiun
      cases hl : listed[i]? with
      | none => rw [hl] at hiun; simp at hiun
      | some b => rw [hl] at hiun h1; simp at hiun h1; rw [hiun] at h1; cases h1
    have h2 := wpOp_putIf hoj (hfree j oj hoj hji hjun hno) (fun cs b => hsel i oi cs b hi) (fun cs b => hsel j oj cs b hoj) (fun c a w h => absurd h (hQ _ _ _)) hy (H.2 j (ready_mono hj hji))
    refine wpOp_mono (fun a' w' h3 => ⟨h3.2.1, ih (listed.setIfInBounds j true) a' w' (closed_set hc hj) (fun k ok hk hki hun hn => ?_) (ready_mono hr (fun e => hji e.symm)) h3.1 (hT listed j hc hiun hj w w' h3.2.1 hS) ?_⟩) h2
    · refine hfree k ok hk hki ?_ hn
      by_cases hjk : j = k
      · subst hjk; exact hjun
      · rwa [getD_set_ne true hjk] at hun
    · rw [Array.setIfInBounds_comm _ _ hji]
      exact h3.2.2
end
end Go.Vx
