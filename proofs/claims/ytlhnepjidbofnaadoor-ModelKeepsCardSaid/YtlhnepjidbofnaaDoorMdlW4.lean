/- Plain law: where all that may be lies. -/
import Derived.Test.YtlhnepjidbofnaaDoorMdlW3
namespace Go.Mdl
open Go.Vx Go.Vc Go.Proofs Go.Txt Go.Lab

/-- All blobs, and none. -/
def dsOf (l : List EvX) : List Fl := (false, ⟨#[]⟩) :: l.flatMap fun e => [(true, e.op.d), (false, e.op.d)]
theorem dsOf_len (l : List EvX) : (dsOf l).length = 2 * l.length + 1 := by
  unfold dsOf
  rw [List.length_cons, List.length_flatMap]
  simp only [List.length_cons, List.length_nil]
  have : (l.map fun _ => 2).sum = 2 * l.length := by
    induction l with
    | nil => rfl
    | cons e l ih => simp only [List.map_cons, List.sum_cons, List.length_cons, ih]; omega
  simpa using this
theorem mem_ds {l : List EvX} {e : EvX} (he : e ∈ l) (b : Bool) : (b, e.op.d) ∈ dsOf l := by
  refine List.mem_cons_of_mem _ (List.mem_flatMap.2 ⟨e, he, ?_⟩)
  cases b <;> simp
theorem ds_size {l : List EvX} (h : ∀ e ∈ l, e.op.d.size ≤ 1000) : ∀ f ∈ dsOf l, f.2.size ≤ 1000 := fun f hf => by
  rcases List.mem_cons.1 hf with rfl | hf
  · exact Nat.zero_le _
  · obtain ⟨e, he, hf⟩ := List.mem_flatMap.1 hf
    simp at hf
    rcases hf with rfl | rfl <;> exact h e he
/-- Does an event leave something that floats? -/
def isFl (e : EvX) : Bool := decide (e.kind = 4) || decide (e.an.e = 13)
def fltE (ops : List OpS) (e : EvX) : List Fl := if isFl e then (match ops[e.id.toNat]? with | some o => [(decide (o.op.k = 1), o.op.d)] | none => []) else []
/-- All that floats behind the first events. -/
def fltAt (l : List EvX) : Nat → List Fl
  | 0 => []
  | i + 1 => fltAt l i ++ match l[i]? with | some e => fltE (opsAt l i) e | none => []
theorem fltE_len (ops : List OpS) (e : EvX) : (fltE ops e).length ≤ if isFl e then 1 else 0 := by
  unfold fltE
  split
  · split <;> simp
  · simp
theorem flt_len {l : List EvX} : ∀ i, (fltAt l i).length ≤ ((l.take i).countP isFl)
  | 0 => by simp [fltAt]
  | i + 1 => by
    have ih := flt_len (l := l) i
    unfold fltAt
    rw [List.take_add_one, List.countP_append, List.length_append]
    cases he : l[i]? with
    | none => simpa using ih
    | some e =>
      have := fltE_len (opsAt l i) e
      simp only [Option.toList, List.countP_cons, List.countP_nil]
      split at this <;> rename_i hh <;> simp [hh] <;> omega
theorem flt_sub {l : List EvX} : ∀ i, ∀ f ∈ fltAt l i, f ∈ dsOf l
  | 0, f, h => by simp [fltAt] at h
  | i + 1, f, h => by
    unfold fltAt at h
    rcases List.mem_append.1 h with h | h
    · exact flt_sub i f h
    · split at h
      · unfold fltE at h
        split at h
        · split at h
          · rename_i o ho
            obtain ⟨e', he', _, eq⟩ := opsAt_op i o (List.mem_of_getElem? ho)
            simp at h
            rw [h, eq]; exact mem_ds he' _
          · cases h
        · cases h
      · cases h
theorem good_at {l : List EvX} (hs : ∀ e ∈ l, e.op.d.size ≤ 1000) (hl : l.length ≤ 60) (hc : l.countP isFl ≤ 4) (i : Nat) : Good (dsOf l) (fltAt l i) :=
  ⟨flt_sub i, ds_size hs, by rw [dsOf_len]; omega, Nat.le_trans (flt_len i) (Nat.le_trans ((List.take_sublist i l).countP_le) hc)⟩
theorem evStep_in {ops : List OpS} {t : ByteArray} {e : EvX} {s : SpX} (h : s ∈ evStep ops t e) : ∃ o ∈ ops, (s.kind = 1 ∧ s.op = o.op ∧ fltE ops e = [(decide (o.op.k = 1), o.op.d)]) ∨ (s.kind ≠ 1 ∧ (s.kind = 3 ∨ s.op = o.op)) := by
  unfold evStep at h
  split at h
  · rename_i o ho
    refine ⟨o, List.mem_of_getElem? ho, ?_⟩
    unfold evStepO at h
    split at h
    · split at h
      · split at h
        · rename_i hh
          simp at h; subst h
          refine .inl ⟨rfl, rfl, ?_⟩
          unfold fltE
          rw [if_pos (by unfold isFl; rcases hh.2 with h | h <;> simp [h]), ho]
        · split at h
          · simp at h; subst h; exact .inr ⟨by simp, .inr rfl⟩
          · cases h
      · split at h
        · simp at h; subst h; exact .inr ⟨by simp, .inl rfl⟩
        · cases h
    · cases h
  · cases h
theorem in_all {l : List EvX} (hs : ∀ e ∈ l, e.op.d.size ≤ 1000) (hl : l.length ≤ 60) (hc : l.countP isFl ≤ 4) : ∀ i, InAll (dsOf l) (fltAt l i) (RA l i)
  | 0 => fun s z hz => by
    rw [RA_zero] at hz
    exact reach_in (good_at hs hl hc 0) (x := c0) ⟨List.mem_cons_self .., List.nil_sublist _⟩ hz
  | i + 1 => by
    have ih := in_all hs hl hc i
    cases he : l[i]? with
    | none =>
      have e1 : RA l (i + 1) = RA l i := by
        unfold RA stsN stsAt; funext s z; rw [List.range_succ, List.flatMap_append]; simp [he]
      have e2 : fltAt l (i + 1) = fltAt l i := by simp [fltAt, he]
      rw [e1, e2]; exact ih
    | some e =>
      have G := good_at hs hl hc (i + 1)
      have e2 : fltAt l (i + 1) = fltAt l i ++ fltE (opsAt l i) e := by simp [fltAt, he]
      intro t z hz
      rw [RA_succ he] at hz
      have up : ∀ {y : Ch}, InU (dsOf l) (fltAt l i) y → InU (dsOf l) (fltAt l (i + 1)) y := fun hy => ⟨hy.1, by rw [e2]; exact hy.2.trans (List.sublist_append_left ..)⟩
      unfold nxt at hz
      split at hz
      · exact up (ih t z hz)
      · rename_i s r hsr
        obtain ⟨y, hy, g, hg, hr⟩ := hz
        refine reach_in G ?_ hr
        have hy := ih t y hy
        obtain ⟨o, ho, hso⟩ := evStep_in (ops := opsAt l i) (t := t) (e := e) (s := s) (by rw [hsr]; simp)
        obtain ⟨e', he', _, eo⟩ := opsAt_op i o ho
        rcases hso with ⟨k1, so, hf⟩ | ⟨k1, so⟩
        · have e3 : nm t s = s := by unfold nm; rw [if_neg (by omega)]
          rw [e3] at hg
          unfold sF at hg
          rw [if_pos k1, so] at hg
          cases hg
          refine ⟨hy.1, ?_⟩
          rw [e2, hf]
          exact List.Sublist.append hy.2 (List.Sublist.refl _)
        · have hk : (nm t s).kind = s.kind := by unfold nm; split <;> rfl
          unfold sF at hg
          rw [hk, if_neg k1] at hg
          have same : some y = some g → InU (dsOf l) (fltAt l (i + 1)) g := fun h => by cases h; exact up hy
          split at hg
          · unfold fS thereF noneF at hg
            split at hg
            all_goals
              dsimp only at hg
              split at hg
              all_goals first | exact same hg | cases hg
          · rename_i k3
            have e3 : nm t s = s := by unfold nm; rw [if_neg k3]
            rw [e3] at hg
            have so := so.resolve_left k3
            have hy' := up hy
            rw [so] at hg
            unfold thereF noneF getF statF putF delF at hg
            repeat' split at hg
            all_goals first
              | exact same hg
              | (cases hg; done)
              | (cases hg; exact ⟨by rw [eo]; exact mem_ds he' true, hy'.2⟩)
              | (cases hg; exact ⟨List.mem_cons_self .., hy'.2⟩)
theorem ends_in {l : List EvX} (hs : ∀ e ∈ l, e.op.d.size ≤ 1000) (hl : l.length ≤ 60) (hc : l.countP isFl ≤ 4) {i : Nat} {s : ByteArray} {z : Ch} (h : W (stsN l s i) c0 z) : (z.p, z.d) ∈ dsOf l := (in_all hs hl hc i s z h).1
end Go.Mdl
