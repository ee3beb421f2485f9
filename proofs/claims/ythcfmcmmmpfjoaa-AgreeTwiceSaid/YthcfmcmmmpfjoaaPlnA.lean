/- The contracts of plans: which may be, and how many must tell that there is nothing. -/
import Derived.Test.YthcfmcmmmpfjoaaE3
import Derived.Test.YthcfmcmmmpfjoaaVcPlan
namespace Go.Pln
open Go.Vx Go.Vc Go.Proofs

structure Plan where
  n : Int
  t : Int
  l : Int
  w : Int
  s : Int
  r : Int
abbrev vI (n : Int) : Value := .int .i64 n
abbrev Plan.v (p : Plan) : Value := .agg #[vI p.n, vI p.t, vI p.l, vI p.w, vI p.s, vI p.r]
/-- A plan may be. -/
structure Plan.Ok (p : Plan) : Prop where
  t1 : 1 ≤ p.t
  t2 : p.t ≤ 256
  l1 : 1 ≤ p.l
  l2 : p.l ≤ 256
  w1 : 1 ≤ p.w
  w2 : p.w ≤ 256
  n1 : 1 ≤ p.n
  n2 : p.n ≤ 256
  tl : p.t + p.l ≤ p.w
  wn : p.w ≤ p.n
  nl : p.n + p.l ≤ 256
  s1 : 1 ≤ p.s
  s2 : p.s ≤ 256
  r1 : 1 ≤ p.r
  r2 : p.r ≤ 64
def Plan.ok (p : Plan) : Bool := decide (1 ≤ p.t ∧ p.t ≤ 256 ∧ 1 ≤ p.l ∧ p.l ≤ 256 ∧ 1 ≤ p.w ∧ p.w ≤ 256 ∧ 1 ≤ p.n ∧ p.n ≤ 256 ∧ p.t + p.l ≤ p.w ∧ p.w ≤ p.n ∧ p.n + p.l ≤ 256 ∧ 1 ≤ p.s ∧ p.s ≤ 256 ∧ 1 ≤ p.r ∧ p.r ≤ 64)
theorem Plan.ok_iff {p : Plan} : p.ok = true ↔ p.Ok := by
  unfold Plan.ok
  rw [decide_eq_true_eq]
  exact ⟨fun ⟨a, b, c, d, e, f, g, h, i, j, k, l, m, n, o⟩ => ⟨a, b, c, d, e, f, g, h, i, j, k, l, m, n, o⟩, fun ⟨a, b, c, d, e, f, g, h, i, j, k, l, m, n, o⟩ => ⟨a, b, c, d, e, f, g, h, i, j, k, l, m, n, o⟩⟩
theorem ok_false {p : Plan} (h : ¬ p.Ok) : p.ok = false := by
  cases e : p.ok with
  | false => rfl
  | true => exact absurd (Plan.ok_iff.1 e) h
theorem in_ok (n lo hi : Int) : Pure Try.prog 60 #[vI n, vI lo, vI hi] (.bool (decide (lo ≤ n ∧ n ≤ hi))) := fun H => by
  refine planIn.vc n lo hi H _ ⟨?_, rfl⟩
  congr 1
  by_cases h1 : n ≥ lo <;> by_cases h2 : n ≤ hi <;> simp [h1, h2] <;> omega
theorem right_ok (p : Plan) : Pure Try.prog 39 #[p.v] (.bool p.ok) := fun H => by
  have no : ∀ {b : Bool}, b = false → ¬ p.Ok → Value.bool b = .bool p.ok := fun hb h => by rw [ok_false h, hb]
  refine planRight.vc p.n p.t p.l p.w p.s p.r H _ ((in_ok _ _ _).use ⟨_, rfl, fun e1 => (in_ok _ _ _).use ⟨_, rfl, fun e2 => (in_ok _ _ _).use ⟨_, rfl, fun e3 => (in_ok _ _ _).use ⟨_, rfl, fun e4 => ?_, fun e4 => ?_⟩, fun e3 => ?_⟩, fun e2 => ?_⟩, fun e1 => ?_⟩)
  · exact ⟨no rfl fun h => by have := h.n1; have := h.n2; simp at e4; omega, rfl⟩
  · have h1 : 1 ≤ p.t ∧ p.t ≤ 256 := by simpa using e1
    have h2 : 1 ≤ p.l ∧ p.l ≤ 256 := by simpa using e2
    have h3 : 1 ≤ p.w ∧ p.w ≤ 256 := by simpa using e3
    have h4 : 1 ≤ p.n ∧ p.n ≤ 256 := by simpa using e4
    rw [wrap64 (n := p.t + p.l) (by omega) (by omega), wrap64 (n := p.n + p.l) (by omega) (by omega)]
    refine ⟨fun e5 => ⟨fun e6 => ⟨fun e7 => (in_ok _ _ _).use ⟨_, rfl, fun e8 => (in_ok _ _ _).use ⟨_, rfl, ?_, rfl⟩, fun e8 => ?_⟩, fun e7 => ?_⟩, fun e6 => ?_⟩, fun e5 => ?_⟩
    · have h5 : p.t + p.l ≤ p.w := by simpa using e5
      have h6 : p.w ≤ p.n := by simpa using e6
      have h7 : p.n + p.l ≤ 256 := by simpa using e7
      have h8 : 1 ≤ p.s ∧ p.s ≤ 256 := by simpa using e8
      congr 1
      rw [Bool.eq_iff_iff, decide_eq_true_eq, Plan.ok_iff]
      exact ⟨fun ⟨a, b⟩ => ⟨h1.1, h1.2, h2.1, h2.2, h3.1, h3.2, h4.1, h4.2, h5, h6, h7, h8.1, h8.2, a, b⟩, fun h => ⟨h.r1, h.r2⟩⟩
    · exact ⟨no rfl fun h => by have := h.s1; have := h.s2; simp at e8; omega, rfl⟩
    · exact ⟨no rfl fun h => by have := h.nl; simp at e7; omega, rfl⟩
    · exact ⟨no rfl fun h => by have := h.wn; simp at e6; omega, rfl⟩
    · exact ⟨no rfl fun h => by have := h.tl; simp at e5; omega, rfl⟩
  · exact ⟨no rfl fun h => by have := h.w1; have := h.w2; simp at e3; omega, rfl⟩
  · exact ⟨no rfl fun h => by have := h.l1; have := h.l2; simp at e2; omega, rfl⟩
  · exact ⟨no rfl fun h => by have := h.t1; have := h.t2; simp at e1; omega, rfl⟩
theorem refRight_ok (p : Plan) : Pure Try.prog 6 #[p.v] (.bool p.ok) := fun H => by
  have e0 : ∀ a b c d e f : Bool, (bif a then true else bif b then true else bif c then true else bif d then true else bif e then true else f) = (a || b || c || d || e || f) := by
    intro a b c d e f; cases a <;> cases b <;> cases c <;> cases d <;> cases e <;> cases f <;> rfl
  have e9 : ∀ a b c d e f : Bool, (bif a then bif b then bif c then bif d then bif e then f else false else false else false else false else false) = (a && b && c && d && e && f) := by
    intro a b c d e f; cases a <;> cases b <;> cases c <;> cases d <;> cases e <;> cases f <;> rfl
  refine refPRight.vc p.n p.t p.l p.w p.s p.r H _ ?_
  rw [e0, e9]
  refine ⟨fun e => ⟨?_, rfl⟩, fun e => ⟨?_, rfl⟩⟩
  · have h : ¬ p.Ok := fun h => by
      obtain ⟨a, b, c, d, e1, f, g, h, i, j, k, l, m, n, o⟩ := h
      simp only [Bool.or_eq_true, decide_eq_true_eq] at e
      omega
    rw [ok_false h]
  · simp only [Bool.or_eq_false_iff, decide_eq_false_iff_not] at e
    obtain ⟨⟨⟨⟨⟨h1, h2⟩, h3⟩, h4⟩, h5⟩, h6⟩ := e
    rw [wrap64 (n := p.t + p.l) (by omega) (by omega)]
    congr 1
    by_cases h7 : p.t + p.l ≤ p.w
    · rw [wrap64 (n := p.n + p.l) (by omega) (by omega), Bool.eq_iff_iff, Plan.ok_iff]
      simp only [Bool.and_eq_true, decide_eq_true_eq]
      exact ⟨fun ⟨⟨⟨⟨⟨a, b⟩, c⟩, d⟩, e⟩, f⟩ => ⟨by omega, by omega, by omega, by omega, by omega, by omega, by omega, by omega, a, by omega, b, c, d, e, f⟩, fun h => ⟨⟨⟨⟨⟨h.tl, h.nl⟩, h.s1⟩, h.s2⟩, h.r1⟩, h.r2⟩⟩
    · rw [ok_false fun h => h7 h.tl, decide_eq_false h7]; simp
theorem quorum_ok (H : PHeap) (p : Plan) : Triple Try.prog 66 #[p.v] H fun v H' => v = vI (if p.ok then p.n - p.w + 1 else 0) ∧ Sub H H' := by
  refine planQuorum.vc p.n p.t p.l p.w p.s p.r H _ fun k7 hk7 => ?_
  have hs := Sub.upd (.cells #[vI p.n, vI p.t, vI p.l, vI p.w, vI p.s, vI p.r] 23 (0, 0)) hk7
  have hb := Bx.new H k7 23 [vI p.n, vI p.t, vI p.l, vI p.w, vI p.s, vI p.r]
  refine ⟨p.n, p.t, p.l, p.w, p.s, p.r, hb.reads, planOfI.vc p.n p.t p.l p.w p.s p.r _ _ _ ((right_ok p).use ⟨_, rfl, fun e => ⟨_, rfl, ?_, hs⟩, fun e => CallY.fn (by kernel_rfl) (planQuorum1.vc (at0 k7) _ _ ⟨obP k7, p.n, hb.fld rfl, obP k7, p.w, hb.fld rfl, _, rfl, _, rfl, ?_, hs⟩)⟩)⟩
  · have : p.ok = false := by simpa using e
    rw [this]; rfl
  · have h : p.ok = true := by simpa using e
    have hp := Plan.ok_iff.1 h
    have := hp.n1; have := hp.n2; have := hp.w1; have := hp.w2
    rw [h, if_pos rfl, wrap64 (n := p.n - p.w) (by omega) (by omega), wrap64 (by omega) (by omega)]
end Go.Pln
