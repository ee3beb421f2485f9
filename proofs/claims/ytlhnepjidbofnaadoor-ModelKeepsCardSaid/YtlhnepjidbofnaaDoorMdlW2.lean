/- Plain law: an event may come, where its order is right and all names may still be. -/
import Derived.Test.YtlhnepjidbofnaaDoorMdlW
namespace Go.Mdl
open Go.Vx Go.Vc Go.Proofs Go.Txt

def LiveR (R : Poss) : Prop := ∀ s, ∃ z, R s z
theorem keepS_live {R : Poss} (hl : LiveR R) {s : ByteArray} {f : Ch → Option Ch} : LiveR (keepS R s f) ↔ keepOK R s f := by
  unfold keepS keepOK
  constructor
  · intro h
    obtain ⟨z, hz⟩ := h s
    rw [setR_self] at hz
    obtain ⟨y, hy, g, hg, _⟩ := hz
    exact ⟨y, hy, by rw [hg]; rfl⟩
  · rintro ⟨y, hy, hs⟩ t
    by_cases e : t = s
    · subst e
      obtain ⟨g, hg⟩ := Option.isSome_iff_exists.1 hs
      exact ⟨g, setR_self.2 ⟨y, hy, g, hg, .refl⟩⟩
    · obtain ⟨z, hz⟩ := hl t
      exact ⟨z, (setR_ne e).2 hz⟩
theorem drift_live {R : Poss} (hl : LiveR R) (o : OpX) : LiveR (driftO R o) := fun t => by
  obtain ⟨z, hz⟩ := hl t
  by_cases h : (o.k = 1 ∨ o.k = 3) ∧ o.s = t
  · exact ⟨addF _ z, by rw [drift_nxt, if_pos h]; exact ⟨z, hz, .refl⟩⟩
  · exact ⟨z, by rw [drift_nxt, if_neg h]; exact hz⟩
theorem rise_iff {l : List ByteArray} : riseN l ↔ UpS l ∧ ApS l := by
  constructor
  · intro h
    refine ⟨fun i s t a b => ?_, fun i s t a b e => ?_⟩
    · have := h i s t a b
      cases hh : lessS t s with
      | false => rfl
      | true => have := lessS_trans this hh; rw [lessS_irrefl] at this; cases this
    · have := h i s t a b
      rw [e, lessS_irrefl] at this; cases this
  · rintro ⟨h1, h2⟩ i s t a b
    have e1 := h1 i s t a b
    have e2 := h2 i s t a b
    cases hh : lessS s t with
    | true => rfl
    | false => rcases lessS_total e2 with h | h
               · rw [hh] at h; cases h
               · rw [e1] at h; cases h
theorem list_iff {ops : List OpS} {R : Poss} (hl : LiveR R) {x : AnX} : okL ops R x.size x.data.size x.names ↔ ((∀ s ∈ x.names, calledS ops s) ∧ riseN x.names ∧ x.size = 0 ∧ x.data.size = 0) ∧ LiveR (listR ops x.names R) := by
  have key : LiveR (listR ops x.names R) ↔ ∀ s, calledS ops s → ∃ y, R s y ∧ (fS x.names s y).isSome := by
    constructor
    · intro h s hc
      obtain ⟨z, hz⟩ := h s
      rcases hz with ⟨_, y, hy, g, hg, _⟩ | ⟨h, _⟩
      · exact ⟨y, hy, by rw [hg]; rfl⟩
      · exact (h hc).elim
    · intro h s
      by_cases hc : calledS ops s
      · obtain ⟨y, hy, hs⟩ := h s hc
        obtain ⟨g, hg⟩ := Option.isSome_iff_exists.1 hs
        exact ⟨g, .inl ⟨hc, y, hy, g, hg, .refl⟩⟩
      · obtain ⟨z, hz⟩ := hl s
        exact ⟨z, .inr ⟨hc, hz⟩⟩
  rw [key, rise_iff]
  exact ⟨fun h => ⟨⟨h.called, ⟨h.up, h.ap⟩, h.sz, h.dl⟩, h.some⟩, fun ⟨⟨a, ⟨b, c⟩, d, e⟩, f⟩ => ⟨d, e, b, c, a, f⟩⟩
theorem fits_iff {ops : List OpS} {R : Poss} (hl : LiveR R) {o : OpX} {x : AnX} (hk : 1 ≤ o.k ∧ o.k ≤ 6) : fitsP ops R o x ↔ formP ops o x ∧ LiveR (fitsR ops R o x) := by
  unfold fitsP formP fitsR
  by_cases x0 : x.e = 0
  · rw [if_pos x0, if_pos x0, if_pos x0]
    unfold doneP doneR plainX
    have : o.k = 1 ∨ o.k = 2 ∨ o.k = 3 ∨ o.k = 5 ∨ o.k = 6 ∨ o.k = 4 := by omega
    rcases this with h | h | h | h | h | h
    · simp only [h]; simp only [if_pos, if_neg, keepS_live hl]; simp; grind
    · simp only [h]; simp [keepS_live hl]; grind
    · simp only [h]; simp [keepS_live hl]; grind
    · simp only [h]; simp [keepS_live hl]; grind
    · simp only [h]; simp [keepS_live hl]; grind
    · simp only [h]; simp only [Int.reduceEq, if_false, if_true]; exact list_iff hl
  · rw [if_neg x0, if_neg x0, if_neg x0]
    by_cases x13 : x.e = 13
    · simp only [if_pos x13, and_true]
      exact ⟨fun h => ⟨h, drift_live hl o⟩, fun h => h.1⟩
    · simp only [if_neg x13]
      by_cases x11 : x.e = 11 ∨ x.e = 12
      · simp only [if_pos x11]
        exact ⟨fun h => ⟨h, hl⟩, fun h => h.1⟩
      · simp only [if_neg x11]
        by_cases x9 : x.e = 9
        · simp only [if_pos x9, keepS_live hl]; grind
        · simp only [if_neg x9]
          by_cases x10 : x.e = 10
          · simp only [if_pos x10, keepS_live hl]; grind
          · simp only [if_neg x10]; simp
def BegS (ops : List OpS) : Prop := ∀ o ∈ ops, o.began = true → checkX o.op = 0
theorem check_k {o : OpX} (h : checkX o = 0) : 1 ≤ o.k ∧ o.k ≤ 6 := by
  unfold checkX at h
  split at h
  · cases h
  · omega
theorem order_o {ops : List OpS} {e : EvX} (h : orderP ops e) (hk : e.kind ≠ 1) : ∃ o, ops[e.id.toNat]? = some o ∧ o.over = false ∧ ((e.kind = 2 ∧ o.began = false ∧ ¬ busyX ops ∧ o.op = e.op ∧ checkX e.op = 0) ∨ (e.kind = 3 ∧ ansP ops o e.an) ∨ e.kind = 4) := by
  rcases h with ⟨h, _⟩ | ⟨_, _, h⟩
  · exact (hk h).elim
  · exact h
theorem step_nxt {ops : List OpS} {R : Poss} {e : EvX} (hc : ClosedR R) (hb : BegS ops) (ho : orderP ops e) (t : ByteArray) (z : Ch) : stepR ops R e t z ↔ nxt t (evStep ops t e) (R t) z := by
  unfold stepR evStep
  by_cases hk : e.kind = 1
  · have e1 : (if e.kind = 3 then (0 : Nat) else 1) = 1 := by rw [if_neg (by omega)]
    cases hop : ops[e.id.toNat]? with
    | none => rfl
    | some o => simp only [hk]; unfold evStepO; rw [hk]; simp [nxt]
  · obtain ⟨o, hop, hov, h⟩ := order_o ho hk
    rw [hop]
    simp only
    rcases h with ⟨h2, _⟩ | ⟨h3, ha⟩ | h4
    · unfold evStepO; rw [h2]; simp [nxt]
    · rw [if_pos h3]
      unfold answeredR
      unfold ansP at ha
      cases hbg : o.began with
      | true =>
        have hf : formP ops o.op e.an := by simpa [hbg] using ha
        obtain ⟨oo, ob, ov⟩ := o
        simp only at hbg; subst hbg
        exact fits_nxt hc (check_k (hb _ (List.mem_of_getElem? hop) rfl)) hf h3
      | false => unfold evStepO; rw [hbg]; simp [nxt]
    · rw [if_neg (by omega), if_pos h4]
      cases hbg : o.began with
      | true =>
        rw [if_pos rfl, drift_nxt]
        unfold evStepO
        have k2 : 2 < e.kind ∧ o.began = true := ⟨by omega, hbg⟩
        rw [if_pos k2]
        by_cases h : (o.op.k = 1 ∨ o.op.k = 3) ∧ o.op.s = t
        · have h1 : o.op.k ≠ 4 ∧ o.op.s = t := ⟨by omega, h.2⟩
          have h2 : (o.op.k = 1 ∨ o.op.k = 3) ∧ (e.kind = 4 ∨ e.an.e = 13) := ⟨h.1, .inl h4⟩
          rw [if_pos h, if_pos h1, if_pos h2]
          unfold nxt
          have e2 : nm t ⟨1, o.op, an0⟩ = ⟨1, o.op, an0⟩ := rfl
          simp only [e2, sF_float]
          rw [drift_keep]
        · rw [if_neg h]
          have h3 : ¬ e.kind = 3 := by omega
          by_cases hh : o.op.k ≠ 4 ∧ o.op.s = t
          · have h5 : ¬ ((o.op.k = 1 ∨ o.op.k = 3) ∧ (e.kind = 4 ∨ e.an.e = 13)) := fun g => h ⟨g.1, hh.2⟩
            rw [if_pos hh, if_neg h5, if_neg h3]; rfl
          · have h5 : ¬ (o.op.k = 4 ∧ e.kind = 3 ∧ e.an.e = 0 ∧ calledS ops t) := fun g => h3 g.2.1
            rw [if_neg hh, if_neg h5]; rfl
      | false => unfold evStepO; rw [hbg]; simp [nxt]
theorem step_iff {ops : List OpS} {R : Poss} {e : EvX} (hl : LiveR R) (hb : BegS ops) : stepP ops R e ↔ orderP ops e ∧ LiveR (stepR ops R e) := by
  have nc : (∀ o, ops[e.id.toNat]? = some o → e.kind = 3 → o.began = true → False) → (stepP ops R e ↔ orderP ops e) ∧ LiveR (stepR ops R e) := fun hno => by
    constructor
    · unfold stepP orderP
      refine or_congr Iff.rfl (and_congr Iff.rfl (and_congr Iff.rfl (exists_congr fun o => and_congr_right fun ho => and_congr Iff.rfl (or_congr Iff.rfl (or_congr (and_congr_right fun h3 => ?_) Iff.rfl)))))
      have hbg : ¬ o.began = true := fun h => hno o ho h3 h
      unfold answeredP ansP
      rw [if_neg hbg]
      simp [hbg]
    · unfold stepR
      split
      · rename_i o ho
        split
        · rename_i h3
          unfold answeredR
          rw [if_neg (fun h => hno o ho h3 h)]
          exact hl
        · split
          · split
            · exact drift_live hl _
            · exact hl
          · exact hl
      · exact hl
  by_cases hh : ∃ o, ops[e.id.toNat]? = some o ∧ e.kind = 3 ∧ o.began = true
  · obtain ⟨o, ho, h3, hbg⟩ := hh
    have hR : stepR ops R e = fitsR ops R o.op e.an := by unfold stepR answeredR; rw [ho]; simp [h3, hbg]
    have hfi := fits_iff (ops := ops) hl (o := o.op) (x := e.an) (check_k (hb o (List.mem_of_getElem? ho) hbg))
    rw [hR]
    unfold stepP orderP
    have n1 : ¬ e.kind = 1 := by omega
    have n2 : ¬ e.kind = 2 := by omega
    have n4 : ¬ e.kind = 4 := by omega
    simp only [n1, n2, n4, h3, ho, false_and, false_or, or_false, true_and, Option.some.injEq, exists_eq_left', ne_eq, not_false_eq_true]
    unfold answeredP ansP
    simp only [if_pos hbg, hbg, hfi]
    simp
    grind
  · obtain ⟨h1, h2⟩ := nc fun o a b c => hh ⟨o, a, b, c⟩
    rw [h1]
    exact ⟨fun h => ⟨h, h2⟩, fun h => h.1⟩
end Go.Mdl
