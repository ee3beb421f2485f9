/- Plain law: events, one behind the other. -/
import Derived.Test.YtlhnepjidbofnaaDoorMdlW2
namespace Go.Mdl
open Go.Vx Go.Vc Go.Proofs Go.Txt Go.Lab

theorem W_reach : ∀ {l : List SpX} {x y z : Ch}, W l x y → Reach y z → W l x z
  | [], _, _, _, h, hr => reach_trans h hr
  | _ :: _, _, _, _, ⟨w, h1, g, h2, h3⟩, hr => ⟨w, h1, g, h2, W_reach h3 hr⟩
theorem W_snoc {s : SpX} : ∀ {l : List SpX} {x z : Ch}, W (l ++ [s]) x z ↔ keepR (sF s) (W l x) z
  | [], x, z => Iff.rfl
  | t :: l, x, z => by
    constructor
    · rintro ⟨w, h1, g, h2, h3⟩
      obtain ⟨y, hy, g', h4, h5⟩ := W_snoc.1 h3
      exact ⟨y, ⟨w, h1, g, h2, hy⟩, g', h4, h5⟩
    · rintro ⟨y, ⟨w, h1, g, h2, hy⟩, g', h4, h5⟩
      exact ⟨w, h1, g, h2, W_snoc.2 ⟨y, hy, g', h4, h5⟩⟩
/-- What may be behind the first events. -/
def RA (l : List EvX) (i : Nat) : Poss := fun s z => W (stsN l s i) c0 z
theorem RA_zero (l : List EvX) (s : ByteArray) (z : Ch) : RA l 0 s z ↔ Reach c0 z := by unfold RA stsN stsAt; simp [W]
theorem RA_succ {l : List EvX} {i : Nat} {e : EvX} (he : l[i]? = some e) (t : ByteArray) (z : Ch) : RA l (i + 1) t z ↔ nxt t (evStep (opsAt l i) t e) (RA l i t) z := by
  have h1 := evStep_len (opsAt l i) t e
  unfold RA stsN
  rw [stsAt_succ he, List.map_append]
  cases hs : evStep (opsAt l i) t e with
  | nil => simp [nxt]
  | cons s r =>
    rw [hs] at h1
    have : r = [] := List.eq_nil_of_length_eq_zero (by simpa using h1)
    subst this
    exact W_snoc
theorem RA_closed (l : List EvX) (i : Nat) : ClosedR (RA l i) := fun _ _ _ h hr => W_reach h hr
theorem beg_ok {l : List EvX} : ∀ i, okAt l i → BegS (opsAt l i)
  | 0, _ => fun o ho => by simp [opsAt] at ho
  | i + 1, h => by
    cases he : l[i]? with
    | none =>
      have e1 : opsAt l (i + 1) = opsAt l i := by unfold opsAt; rw [List.take_add_one, he]; simp
      rw [e1]; exact beg_ok i fun j e hj he => h j e (by omega) he
    | some e =>
      obtain ⟨h1, h2⟩ := (okAt_succ he).1 h
      have ih := beg_ok i h1
      rw [opsAt_succ he]
      intro o ho hbg
      unfold stepOps at ho
      split at ho
      · rcases List.mem_append.1 ho with ho | ho
        · exact ih o ho hbg
        · simp at ho; rw [ho] at hbg; cases hbg
      · rename_i hk
        obtain ⟨o0, ho0, _, hh⟩ := order_o h2 hk
        split at ho
        · rename_i hk2
          obtain ⟨j, hj⟩ := List.mem_iff_getElem?.1 ho
          rw [List.getElem?_modify] at hj
          by_cases e1 : e.id.toNat = j
          · subst e1
            rw [ho0] at hj; simp at hj
            rcases hh with ⟨_, _, _, h4, h5⟩ | ⟨h3, _⟩ | h4
            · rw [← hj]; show checkX o0.op = 0; rw [h4]; exact h5
            · omega
            · omega
          · simp only [if_neg e1] at hj
            exact ih o (List.mem_of_getElem? (by simpa using hj)) hbg
        · rcases mem_modify ho with ho | ⟨o', ho', e1⟩
          · exact ih o ho hbg
          · rw [e1] at hbg ⊢; exact ih o' ho' hbg
def okR (l : List EvX) (i : Nat) : Prop := okAt l i ∧ LiveR (RA l i)
theorem okR_zero (l : List EvX) : okR l 0 := ⟨fun j e hj => by omega, fun s => ⟨c0, (RA_zero l s c0).2 .refl⟩⟩
theorem run_step {l : List EvX} {i : Nat} {e : EvX} (he : l[i]? = some e) (h : okAt l i) (ho : orderP (opsAt l i) e) : stepR (opsAt l i) (RA l i) e = RA l (i + 1) := by
  funext t z
  exact propext ((step_nxt (RA_closed l i) (beg_ok i h) ho t z).trans (RA_succ he t z).symm)
theorem run_iff {l : List EvX} {i : Nat} {e : EvX} (he : l[i]? = some e) (h : okR l i) : stepP (opsAt l i) (RA l i) e ↔ okR l (i + 1) := by
  rw [step_iff h.2 (beg_ok i h.1)]
  unfold okR
  rw [okAt_succ he]
  constructor
  · rintro ⟨h1, h2⟩; rw [run_step he h.1 h1] at h2; exact ⟨⟨h.1, h1⟩, h2⟩
  · rintro ⟨⟨_, h1⟩, h2⟩; rw [run_step he h.1 h1]; exact ⟨h1, h2⟩
/-! ### Prefixes -/
theorem opsAt_take {l : List EvX} {i j : Nat} (h : j ≤ i) : opsAt (l.take i) j = opsAt l j := by unfold opsAt; rw [List.take_take, Nat.min_eq_left h]
theorem stsAt_take {l : List EvX} {s : ByteArray} {i k : Nat} (h : k ≤ i) : stsAt (l.take i) s k = stsAt l s k := by
  unfold stsAt
  rw [List.flatMap_def, List.flatMap_def]
  refine congrArg _ (List.map_congr_left fun j hj => ?_)
  have := List.mem_range.1 hj
  rw [List.getElem?_take, if_pos (by omega), opsAt_take (by omega)]
theorem okAt_take {l : List EvX} {i k : Nat} (h : k ≤ i) : okAt (l.take i) k ↔ okAt l k := by
  unfold okAt
  refine forall_congr' fun j => forall_congr' fun e => ⟨fun hh hj he => ?_, fun hh hj he => ?_⟩
  · have := hh hj (by rw [List.getElem?_take, if_pos (by omega)]; exact he)
    rwa [opsAt_take (by omega)] at this
  · rw [List.getElem?_take, if_pos (by omega)] at he
    rw [opsAt_take (by omega)]; exact hh hj he
theorem RA_take {l : List EvX} {i k : Nat} (h : k ≤ i) : RA (l.take i) k = RA l k := by unfold RA stsN; funext s z; rw [stsAt_take h]
theorem not_called {l : List EvX} {s : ByteArray} (h : s ∉ namesOf l) (n : Nat) : stsAt l s n = [] := by
  have hno : ∀ j o, o ∈ opsAt l j → ¬ (o.op.k ≠ 4 ∧ o.op.s = s) := fun j o ho ⟨h4, hs⟩ => by
    obtain ⟨e, he, hk, ho⟩ := opsAt_op j o ho
    refine h (List.mem_filterMap.2 ⟨e, he, ?_⟩)
    rw [if_pos ⟨hk, by rw [← ho]; exact h4⟩, ← ho, hs]
  refine List.flatMap_eq_nil_iff.2 fun j _ => ?_
  split
  · unfold evStep
    split
    · rename_i o ho
      have h1 := hno j o (List.mem_of_getElem? ho)
      have h2 : ¬ calledS (opsAt l j) s := fun ⟨o', ho', hh⟩ => hno j o' ho' hh
      unfold evStepO
      rw [if_neg h1]
      split
      · rw [if_neg (fun g => h2 g.2.2.2)]
      · rfl
    · rfl
  · rfl
theorem right_iff {l : List EvX} {n : Nat} : rightP l n ↔ okR l n := by
  unfold rightP okR
  refine and_congr_right fun _ => ⟨fun h s => ?_, fun h s _ => h s⟩
  by_cases hs : s ∈ namesOf l
  · exact h s hs
  · exact ⟨c0, by unfold RA stsN; rw [not_called hs]; exact .refl⟩
end Go.Mdl
