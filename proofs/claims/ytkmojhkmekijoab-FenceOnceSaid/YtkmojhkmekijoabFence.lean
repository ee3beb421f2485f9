/- The contracts of the package fence, and of its reference's test of what may be known. -/
import Derived.Test.YtkmojhkmekijoabVxU
import Derived.Test.YtkmojhkmekijoabVcFence
namespace Go.Fence
open Go.Vx Go.Vc Go.Proofs

abbrev S := Int × Int × Int
abbrev sup (s : S) : Value := .agg #[.int .i64 s.1, .int .i64 s.2.1, .int .i64 s.2.2]
def blank (s : S) : Bool := s.1 == 0 && (s.2.1 == 0 && s.2.2 == 0)
def right (s : S) : Bool := blank s || (decide (0 ≤ s.2.1) && (decide (s.2.1 ≤ s.1) && (decide (s.1 ≤ 4294967295) && (s.2.2 == 1 || s.2.2 == 2))))

theorem vb {a b : Bool} (h : a = b) : Value.bool a = Value.bool b := by rw [h]
theorem right_ok (s : S) : Pure Try.prog 19 #[sup s] (.bool (right s)) := by
  intro H
  refine right.vc s.1 s.2.1 s.2.2 H _ ⟨fun h => ⟨vb ?_, rfl⟩, fun h => ⟨vb ?_, rfl⟩⟩
  · simp [right, blank, h]
  · unfold right blank; rw [h]; simp only [Bool.false_or, Bool.cond_eq_ite]; grind
theorem right2_ok (s : S) : Pure Try.prog 5 #[sup s] (.bool (right s)) := by
  intro H
  refine rRight.vc s.1 s.2.1 s.2.2 H _ ⟨fun h => ⟨vb ?_, rfl⟩, fun h => ⟨vb ?_, rfl⟩⟩ <;> unfold right blank <;> simp only [Bool.cond_eq_ite] <;> grind
theorem blank_ok (s : S) : Pure Try.prog 20 #[sup s] (.bool (blank s)) := by
  intro H
  exact blank.vc s.1 s.2.1 s.2.2 H _ ⟨rfl, rfl⟩

/-- What 'Hear' tells. -/
def hear (s : S) (n : Int) : S × Int :=
  if right s = true ∧ s.1 ≤ n ∧ n ≤ 4294967295 then (if blank s = true then ((n, n, 2), 3) else if n = s.1 then (s, 2) else ((n, s.2.1, s.2.2), 3)) else (s, 1)
def deal (s : S) : S × Bool := if right s = true ∧ blank s = false ∧ s.2.1 < s.1 then ((s.1, s.1, s.2.2), true) else (s, false)
def doubt (s : S) : S := if right s = true then (s.1, s.1, 2) else s
def join (s : S) : S × Bool := if right s = true ∧ s.2.2 = 1 then (s, true) else if (deal s).2 = true then (((deal s).1.1, (deal s).1.2.1, 1), true) else (s, false)
theorem tup {a b c n : Int} {r : S × Int} (h : r = ((a, b, c), n)) : Value.tuple #[.agg #[.int .i64 a, .int .i64 b, .int .i64 c], .int .i64 n] = .tuple #[sup r.1, .int .i64 r.2] := by rw [h]
theorem tupb {a b c : Int} {n : Bool} {r : S × Bool} (h : r = ((a, b, c), n)) : Value.tuple #[.agg #[.int .i64 a, .int .i64 b, .int .i64 c], .bool n] = .tuple #[sup r.1, .bool r.2] := by rw [h]
theorem tups {a b c : Int} {r : S} (h : r = (a, b, c)) : Value.agg #[.int .i64 a, .int .i64 b, .int .i64 c] = sup r := by rw [h]
theorem hear_ok (s : S) (n : Int) : Pure Try.prog 10 #[sup s, .int .i64 n] (.tuple #[sup (hear s n).1, .int .i64 (hear s n).2]) := by
  intro H
  refine hear.vc s.1 s.2.1 s.2.2 n H _ ((right_ok s).use ⟨_, rfl, fun h => ⟨tup ?_, rfl⟩, fun h => ⟨fun h2 => (blank_ok s).use ⟨_, rfl, fun h3 => ⟨tup ?_, rfl⟩, fun h3 => (blank_ok s).use ⟨_, rfl, fun h4 => ⟨tup ?_, rfl⟩, fun h4 => ⟨tup ?_, rfl⟩⟩⟩, fun h2 => (blank_ok s).use ⟨_, rfl, fun h4 => ⟨tup ?_, rfl⟩, fun h4 => ⟨tup ?_, rfl⟩⟩⟩⟩)
  all_goals (unfold hear; (try simp only [Bool.cond_eq_ite] at *); grind)
theorem deal_ok (s : S) : Pure Try.prog 9 #[sup s] (.tuple #[sup (deal s).1, .bool (deal s).2]) := by
  intro H
  refine deal.vc s.1 s.2.1 s.2.2 H _ ((right_ok s).use ⟨_, rfl, fun h => (blank_ok s).use ⟨_, rfl, fun h2 => ⟨tupb ?_, rfl⟩, fun h2 => ⟨tupb ?_, rfl⟩⟩, fun h => ⟨tupb ?_, rfl⟩⟩)
  all_goals (unfold deal; (try simp only [Bool.cond_eq_ite] at *); grind)
theorem join_ok (s : S) : Pure Try.prog 8 #[sup s] (.tuple #[sup (join s).1, .bool (join s).2]) := by
  intro H
  refine join.vc s.1 s.2.1 s.2.2 H _ ((right_ok s).use ⟨_, rfl, fun h => ⟨tupb ?_, rfl⟩, fun h => (deal_ok s).use ⟨_, _, _, _, rfl, fun h2 => ⟨tupb ?_, rfl⟩, fun h2 => ⟨tupb ?_, rfl⟩⟩⟩)
  all_goals (unfold join; (try simp only [Bool.cond_eq_ite] at *); grind)
theorem doubt_ok (s : S) : Pure Try.prog 7 #[sup s] (sup (doubt s)) := by
  intro H
  refine doubt.vc s.1 s.2.1 s.2.2 H _ ((right_ok s).use ⟨_, rfl, fun h => ⟨tups ?_, rfl⟩, fun h => ⟨tups ?_, rfl⟩⟩)
  all_goals (unfold doubt; grind)
end Go.Fence
