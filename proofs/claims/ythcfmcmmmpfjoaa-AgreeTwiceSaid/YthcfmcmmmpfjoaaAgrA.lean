/- An agreement in plain words: its state, its steps, and what is so of them. No program is in sight. -/
import Derived.Test.YthcfmcmmmpfjoaaSetC
namespace Go.Agr
open Go.Vx Go.Vc Go.Proofs Go.Pln Go.Stl
open Go.Rnd (takesG insG froms againG)

abbrev Msg := Rnd.Msg
structure St where
  p : Plan
  ballot : Int
  name : ByteArray
  force : Bool
  live : Bool
  over : Bool
  mark : Int
  asks : List Msg
  wait : List Int
  G : List Msg
  tries : Int
  ok : Bool
  fixed : Bool
  value : Val
  holders : List Int
  acks : List Int
  said : List Msg
def ids (p : Plan) : List Int := (List.range p.n.toNat).map fun i : Nat => (i : Int) + 1
theorem ids_len (p : Plan) : (ids p).length = p.n.toNat := by simp [ids]
def askAll (p : Plan) (b : Int) (nm : ByteArray) (m : Msg) : List Msg := (ids p).map fun i => (m.1, m.2.1, i, b, nm, m.2.2.2.2.2)
def mask : Msg := (1, 0, 0, 0, ⟨#[]⟩, 0, 0, 0, 0, 0, ⟨none, 0, 0, []⟩, ⟨none, 0, 0, []⟩, ⟨none, 0, 0, []⟩)
def mfix (mark : Int) (v : Val) : Msg := (4, 0, 0, 0, ⟨#[]⟩, if v.pr then v.at_ else 0, if v.pr then v.ep else 0, mark, if v.pr then v.sz else 0, if v.pr then 1 else 0, ⟨none, 0, 0, []⟩, ⟨none, 0, 0, []⟩, ⟨none, 0, 0, []⟩)
def St.ask (s : St) (m : Msg) : St × List Msg := ({ s with asks := askAll s.p s.ballot s.name m, wait := ids s.p, G := [], tries := maxI s.p.r 0 }, askAll s.p s.ballot s.name m)
def St.fix (s : St) (v : Val) : St × List Msg := St.ask { s with fixed := true, value := v } (mfix s.mark v)
def St.end_ (s : St) (ok : Bool) : St := { s with over := true, ok := ok }
def allG (wait : List Int) (G : List Msg) : Bool := wait.all fun i => decide (i ∈ froms G)
def ackL (G : List Msg) : List Msg := G.filter fun m => kind_ m == 17
def St.counted (s : St) : St := { s with acks := (ackL s.G).map from_, holders := holdL s.value (ackL s.G) }
def St.num (s : St) : Nat := if s.live then (holdL s.value (ackL s.G)).length else (ackL s.G).length
def St.judge0 (s : St) : St × List Msg :=
  if (verd s.p s.G).enough then
    if (verd s.p s.G).clean && !s.force then (St.end_ { s with said := s.G, value := (verd s.p s.G).value, holders := (verd s.p s.G).holders } true, [])
    else St.fix { s with said := s.G } (verd s.p s.G).value
  else if allG s.wait s.G then (s.end_ false, []) else (s, [])
def St.judge1 (s : St) : St × List Msg :=
  if decide ((s.num : Int) ≥ s.p.w) || allG s.wait s.G then (s.counted.end_ (decide ((s.num : Int) ≥ s.p.w)), []) else (s.counted, [])
def St.judge (s : St) : St × List Msg := if s.fixed then s.judge1 else s.judge0
def St.takes (s : St) (m : Msg) : Bool :=
  m.2.2.2.1 == s.ballot && eqS m.2.2.2.2.1 s.name &&
    (if s.fixed then
      (if kind_ m == 16 then what_ m == 4 && mark_ m == s.mark
       else kind_ m == 17 && mark_ m == s.mark && (if s.value.pr then (what_ m == 2 || what_ m == 3) && att_ m == s.value.at_ && ep_ m == s.value.ep else what_ m == 4))
     else kind_ m == 14)
def St.got (s : St) (m : Msg) : St := { s with G := insG s.G m }
def St.take (s : St) (m : Msg) : St × List Msg :=
  if s.over then (s, []) else if s.takes m && takesG s.wait s.G m then
    if allG s.wait (insG s.G m) then (s.got m).judge else (s.got m, [])
  else (s, [])
def St.late (s : St) : St × List Msg := if s.tries = 0 then (s.end_ false, []) else ({ s with tries := IntKind.i64.wrap (s.tries - 1) }, againG s.asks s.G)
def St.tick (s : St) : St × List Msg :=
  if s.over then (s, []) else if s.judge.1.over || (s.judge.1.fixed != s.fixed) then s.judge else s.judge.1.late

/-! ### What a judgement leaves -/
structure Same (s t : St) : Prop where
  p : t.p = s.p
  fixed : t.fixed = s.fixed
  tries : t.tries = s.tries
  wait : t.wait = s.wait
  G : t.G = s.G
  asks : t.asks = s.asks
  mark : t.mark = s.mark
/-- A judgement: the same round goes on, with nothing to ask; or a value begins to be fixed. -/
theorem judge_cases (s : St) : (Same s s.judge.1 ∧ s.judge.2 = []) ∨ (s.fixed = false ∧ ∃ t v, Same s t ∧ t.over = s.over ∧ t.ok = s.ok ∧ v = (verd s.p s.G).value ∧ (verd s.p s.G).enough = true ∧ s.judge = t.fix v) := by
  unfold St.judge
  cases hf : s.fixed with
  | true =>
    left
    simp only [if_true]
    unfold St.judge1
    split
    · exact ⟨⟨rfl, rfl, rfl, rfl, rfl, rfl, rfl⟩, rfl⟩
    · exact ⟨⟨rfl, rfl, rfl, rfl, rfl, rfl, rfl⟩, rfl⟩
  | false =>
    simp only [Bool.false_eq_true, if_false]
    unfold St.judge0
    cases he : (verd s.p s.G).enough with
    | true =>
      simp only [if_true]
      split
      · exact .inl ⟨⟨rfl, rfl, rfl, rfl, rfl, rfl, rfl⟩, rfl⟩
      · exact .inr ⟨by first | rfl | trivial, { s with said := s.G }, _, ⟨rfl, rfl, rfl, rfl, rfl, rfl, rfl⟩, rfl, rfl, rfl, by first | rfl | trivial, rfl⟩
    | false =>
      left
      simp only [Bool.false_eq_true, if_false]
      split
      · exact ⟨⟨rfl, rfl, rfl, rfl, rfl, rfl, rfl⟩, rfl⟩
      · exact ⟨⟨rfl, rfl, rfl, rfl, rfl, rfl, rfl⟩, rfl⟩
theorem fix_fixed (s : St) (v : Val) : (s.fix v).1.fixed = true := rfl
theorem fix_over (s : St) (v : Val) : (s.fix v).1.over = s.over := rfl
theorem tick_over {s : St} (h : s.over = true) : s.tick = (s, []) := if_pos h
theorem take_over {s : St} (h : s.over = true) (m : Msg) : s.take m = (s, []) := if_pos h

/-! ### It ends -/
def St.bd (s : St) : Int := if s.fixed then 2 * maxI s.p.r 0 + 1 else maxI s.p.r 0
/-- So many ticks went by. -/
def Went (t : Int) (s : St) : Prop := s.over = true ∨ (t + s.tries ≤ s.bd ∧ 0 ≤ s.tries ∧ s.tries ≤ 100000 ∧ 0 ≤ maxI s.p.r 0 ∧ maxI s.p.r 0 ≤ 100000)
theorem went_judge {t : Int} {s : St} (h : Went t s) : Went t s.judge.1 ∨ s.over = true := by
  rcases h with h | ⟨h1, h2, h3, h4, h5⟩
  · exact .inr h
  rcases judge_cases s with ⟨hs, _⟩ | ⟨hf, u, v, hs, ho, hk, _, _, hj⟩
  · exact .inl (.inr ⟨by unfold St.bd at h1 ⊢; rw [hs.fixed, hs.p, hs.tries]; exact h1, by rw [hs.tries]; exact h2, by rw [hs.tries]; exact h3, by rw [hs.p]; exact h4, by rw [hs.p]; exact h5⟩)
  · left
    rw [hj]
    have e1 : (u.fix v).1.tries = maxI s.p.r 0 := by rw [← hs.p]; rfl
    have e2 : (u.fix v).1.p = s.p := hs.p
    refine .inr ⟨?_, by rw [e1]; exact h4, by rw [e1]; exact h5, by rw [e2]; exact h4, by rw [e2]; exact h5⟩
    unfold St.bd at h1 ⊢
    rw [hf] at h1
    rw [fix_fixed, e1, e2]
    simp only [Bool.false_eq_true, if_false, if_true] at h1 ⊢
    omega
theorem went_take {t : Int} {s : St} (h : Went t s) (m : Msg) : Went t (s.take m).1 := by
  unfold St.take
  split
  · exact h
  · rename_i ho
    split
    · have hg : Went t (s.got m) := h
      split
      · rcases went_judge hg with h' | h'
        · exact h'
        · exact absurd h' ho
      · exact hg
    · exact h
theorem went_tick {t : Int} {s : St} (h : Went t s) : Went (t + 1) s.tick.1 := by
  unfold St.tick
  split
  · rename_i ho; exact .inl ho
  rename_i ho
  split
  · rename_i hc
    cases hov : s.judge.1.over with
    | true => exact .inl hov
    | false =>
      rw [hov, Bool.false_or] at hc
      rcases h with h | ⟨h1, h2, h3, h4, h5⟩
      · exact absurd h ho
      rcases judge_cases s with ⟨hs, _⟩ | ⟨hf, u, v, hs, ho', hk, _, _, hj⟩
      · rw [hs.fixed] at hc; simp at hc
      · rw [hj]
        have e1 : (u.fix v).1.tries = maxI s.p.r 0 := by rw [← hs.p]; rfl
        have e2 : (u.fix v).1.p = s.p := hs.p
        refine .inr ⟨?_, by rw [e1]; exact h4, by rw [e1]; exact h5, by rw [e2]; exact h4, by rw [e2]; exact h5⟩
        unfold St.bd at h1 ⊢
        rw [hf] at h1
        rw [fix_fixed, e1, e2]
        simp only [Bool.false_eq_true, if_false, if_true] at h1 ⊢
        omega
  · rename_i hc
    rcases went_judge h with h' | h'
    · rcases h' with h' | ⟨h1, h2, h3, h4, h5⟩
      · rw [h'] at hc; simp at hc
      unfold St.late
      split
      · exact .inl rfl
      · rename_i ht
        rw [wrap64 (n := s.judge.1.tries - 1) (by omega) (by omega)]
        refine .inr ⟨?_, by simp only; omega, by simp only; omega, h4, h5⟩
        have : St.bd { s.judge.1 with tries := s.judge.1.tries - 1 } = s.judge.1.bd := rfl
        rw [this]
        simp only
        omega
    · exact absurd h' ho
theorem went_end {t : Int} {s : St} (h : Went t s) (ht : t ≥ 2 * (maxI s.p.r 0 + 1)) : s.over = true := by
  rcases h with h | ⟨h1, h2, h3, h4, h5⟩
  · exact h
  · unfold St.bd at h1
    split at h1 <;> omega

/-! ### What comes twice -/
theorem froms_ins (G : List Msg) (m : Msg) : from_ m ∈ froms (insG G m) := List.mem_map.2 ⟨m, Rnd.mem_ins.2 (.inr rfl), rfl⟩
theorem takesG_ins (wait : List Int) (G : List Msg) (m : Msg) : takesG wait (insG G m) m = false := by
  unfold takesG
  rw [show decide (Rnd.from_ m ∈ froms (insG G m)) = true from decide_eq_true (froms_ins G m)]; simp
theorem take_twice (s : St) (m : Msg) : (s.take m).1.take m = ((s.take m).1, []) := by
  by_cases ho : s.over = true
  · rw [take_over ho, take_over ho]
  by_cases ht : (s.takes m && takesG s.wait s.G m) = true
  · have hs : s.take m = if allG s.wait (insG s.G m) then (s.got m).judge else (s.got m, []) := by
      unfold St.take; rw [if_neg ho, if_pos ht]
    have key : ∀ u : St, takesG u.wait u.G m = false → u.take m = (u, []) := fun u hu => by
      unfold St.take
      split
      · rfl
      · rw [hu, Bool.and_false]; rfl
    rw [hs]
    split
    · rcases judge_cases (s.got m) with ⟨hj, _⟩ | ⟨hf, u, v, hj, ho', hk, _, _, hjj⟩
      · refine key _ ?_
        rw [hj.wait, hj.G]; exact takesG_ins _ _ _
      · rw [hjj]
        have hfs : s.fixed = false := hf
        have h14 : (kind_ m == 14) = true := by
          have := (Bool.and_eq_true _ _ ▸ ht).1
          unfold St.takes at this
          rw [hfs] at this
          simp only [Bool.and_eq_true, Bool.false_eq_true, if_false] at this
          exact this.2
        have h14' : kind_ m = 14 := by simpa using h14
        have hno : (u.fix v).1.takes m = false := by
          unfold St.takes
          rw [fix_fixed]
          simp [h14']
        unfold St.take
        split
        · rfl
        · rw [hno, Bool.false_and]; rfl
    · exact key _ (takesG_ins _ _ _)
  · have hs : s.take m = (s, []) := by
      unfold St.take; rw [if_neg ho, if_neg ht]
    rw [hs, hs]
end Go.Agr
