/- What each function of the law FenceHears tells. -/
import Derived.Test.YtkmojhkmekijoaaVxU
import Derived.Test.YtkmojhkmekijoaaV1
namespace Go.Proofs.Ytkmojhkmekijoaa.Fence
open Go.Vx Go.Vc Go.Proofs

abbrev S := Int × Int × Int
abbrev sup (s : S) : Value := .agg #[.int .i64 s.1, .int .i64 s.2.1, .int .i64 s.2.2]
def blank (s : S) : Bool := s.1 == 0 && (s.2.1 == 0 && s.2.2 == 0)
def right (s : S) : Bool := blank s || (decide (0 ≤ s.2.1) && (decide (s.2.1 ≤ s.1) && (decide (s.1 ≤ 4294967295) && (s.2.2 == 1 || s.2.2 == 2))))

theorem vb {a b : Bool} (h : a = b) : Value.bool a = Value.bool b := by rw [h]
theorem right_ok (s : S) : Pure Try.prog 22 #[sup s] (.bool (right s)) := by
  intro H
  refine f22.vc s.1 s.2.1 s.2.2 H _ ⟨fun h => ⟨vb ?_, rfl⟩, fun h => ⟨vb ?_, rfl⟩⟩
  · simp [right, blank, h]
  · unfold right blank; rw [h]; simp only [Bool.false_or, Bool.cond_eq_ite]; grind
theorem right2_ok (s : S) : Pure Try.prog 24 #[sup s] (.bool (right s)) := by
  intro H
  refine f24.vc s.1 s.2.1 s.2.2 H _ ⟨fun h => ⟨vb ?_, rfl⟩, fun h => ⟨vb ?_, rfl⟩⟩ <;> unfold right blank <;> simp only [Bool.cond_eq_ite] <;> grind
theorem blank_ok (s : S) : Pure Try.prog 23 #[sup s] (.bool (blank s)) := by
  intro H
  exact f23.vc s.1 s.2.1 s.2.2 H _ ⟨rfl, rfl⟩

/-- What 'Hear' tells. -/
def hear (s : S) (n : Int) : S × Int :=
  if right s = true ∧ s.1 ≤ n ∧ n ≤ 4294967295 then (if blank s = true then ((n, n, 2), 3) else if n = s.1 then (s, 2) else ((n, s.2.1, s.2.2), 3)) else (s, 1)
def deal (s : S) : S × Bool := if right s = true ∧ blank s = false ∧ s.2.1 < s.1 then ((s.1, s.1, s.2.2), true) else (s, false)
def doubt (s : S) : S := if right s = true then (s.1, s.1, 2) else s
def join (s : S) : S × Bool := if right s = true ∧ s.2.2 = 1 then (s, true) else if (deal s).2 = true then (((deal s).1.1, (deal s).1.2.1, 1), true) else (s, false)
theorem tup {a b c n : Int} {r : S × Int} (h : r = ((a, b, c), n)) : Value.tuple #[.agg #[.int .i64 a, .int .i64 b, .int .i64 c], .int .i64 n] = .tuple #[sup r.1, .int .i64 r.2] := by rw [h]
theorem tupb {a b c : Int} {n : Bool} {r : S × Bool} (h : r = ((a, b, c), n)) : Value.tuple #[.agg #[.int .i64 a, .int .i64 b, .int .i64 c], .bool n] = .tuple #[sup r.1, .bool r.2] := by rw [h]
theorem tups {a b c : Int} {r : S} (h : r = (a, b, c)) : Value.agg #[.int .i64 a, .int .i64 b, .int .i64 c] = sup r := by rw [h]
theorem hear_ok (s : S) (n : Int) : Pure Try.prog 11 #[sup s, .int .i64 n] (.tuple #[sup (hear s n).1, .int .i64 (hear s n).2]) := by
  intro H
  refine f11.vc s.1 s.2.1 s.2.2 n H _ ((right_ok s).use ⟨_, rfl, fun h => ⟨tup ?_, rfl⟩, fun h => ⟨fun h2 => (blank_ok s).use ⟨_, rfl, fun h3 => ⟨tup ?_, rfl⟩, fun h3 => (blank_ok s).use ⟨_, rfl, fun h4 => ⟨tup ?_, rfl⟩, fun h4 => ⟨tup ?_, rfl⟩⟩⟩, fun h2 => (blank_ok s).use ⟨_, rfl, fun h4 => ⟨tup ?_, rfl⟩, fun h4 => ⟨tup ?_, rfl⟩⟩⟩⟩)
  all_goals (unfold hear; (try simp only [Bool.cond_eq_ite] at *); grind)
theorem hear2_ok (s : S) (n : Int) : Pure Try.prog 12 #[sup s, .int .i64 n] (.tuple #[sup (hear s n).1, .int .i64 (hear s n).2]) := by
  intro H
  refine f12.vc s.1 s.2.1 s.2.2 n H _ ((right2_ok s).use ⟨_, rfl, fun h => ⟨tup ?_, rfl⟩, fun h => ⟨fun h2 => ⟨tup ?_, rfl⟩, fun h2 => ⟨fun h3 => ⟨tup ?_, rfl⟩, fun h3 => ⟨tup ?_, rfl⟩⟩⟩⟩)
  all_goals (unfold hear right blank at *; (try simp only [Bool.cond_eq_ite] at *); grind)
theorem deal_ok (s : S) : Pure Try.prog 13 #[sup s] (.tuple #[sup (deal s).1, .bool (deal s).2]) := by
  intro H
  refine f13.vc s.1 s.2.1 s.2.2 H _ ((right_ok s).use ⟨_, rfl, fun h => (blank_ok s).use ⟨_, rfl, fun h2 => ⟨tupb ?_, rfl⟩, fun h2 => ⟨tupb ?_, rfl⟩⟩, fun h => ⟨tupb ?_, rfl⟩⟩)
  all_goals (unfold deal; (try simp only [Bool.cond_eq_ite] at *); grind)
theorem deal2_ok (s : S) : Pure Try.prog 14 #[sup s] (.tuple #[sup (deal s).1, .bool (deal s).2]) := by
  intro H
  refine f14.vc s.1 s.2.1 s.2.2 H _ ((right2_ok s).use ⟨_, rfl, fun h => ⟨tupb ?_, rfl⟩, fun h => ⟨tupb ?_, rfl⟩⟩)
  all_goals (unfold deal right blank at *; (try simp only [Bool.cond_eq_ite] at *); grind)
theorem join_ok (s : S) : Pure Try.prog 15 #[sup s] (.tuple #[sup (join s).1, .bool (join s).2]) := by
  intro H
  refine f15.vc s.1 s.2.1 s.2.2 H _ ((right_ok s).use ⟨_, rfl, fun h => ⟨tupb ?_, rfl⟩, fun h => (deal_ok s).use ⟨_, _, _, _, rfl, fun h2 => ⟨tupb ?_, rfl⟩, fun h2 => ⟨tupb ?_, rfl⟩⟩⟩)
  all_goals (unfold join; (try simp only [Bool.cond_eq_ite] at *); grind)
theorem join2_ok (s : S) : Pure Try.prog 16 #[sup s] (.tuple #[sup (join s).1, .bool (join s).2]) := by
  intro H
  refine f16.vc s.1 s.2.1 s.2.2 H _ ((right2_ok s).use ⟨_, rfl, fun h => ⟨tupb ?_, rfl⟩, fun h => (right2_ok s).use ⟨_, rfl, fun h2 => ⟨tupb ?_, rfl⟩, fun h2 => ⟨tupb ?_, rfl⟩⟩⟩)
  all_goals (unfold join deal right blank at *; (try simp only [Bool.cond_eq_ite] at *); grind)
theorem doubt_ok (s : S) : Pure Try.prog 17 #[sup s] (sup (doubt s)) := by
  intro H
  refine f17.vc s.1 s.2.1 s.2.2 H _ ((right_ok s).use ⟨_, rfl, fun h => ⟨tups ?_, rfl⟩, fun h => ⟨tups ?_, rfl⟩⟩)
  all_goals (unfold doubt; grind)
theorem doubt2_ok (s : S) : Pure Try.prog 18 #[sup s] (sup (doubt s)) := by
  intro H
  refine f18.vc s.1 s.2.1 s.2.2 H _ ((right2_ok s).use ⟨_, rfl, fun h => ⟨tups ?_, rfl⟩, fun h => ⟨tups ?_, rfl⟩⟩)
  all_goals (unfold doubt; grind)
theorem alive_ok : Pure Try.prog 19 #[] (.bool true) := by
  intro H
  refine f19.vc H _ ((hear_ok (0, 0, 0) 5).use ⟨_, _, _, _, rfl, (hear_ok (hear (0, 0, 0) 5).1 4).use ⟨_, _, _, _, rfl, (deal_ok (hear (0, 0, 0) 5).1).use ⟨_, _, _, _, rfl,
    (deal_ok (deal (hear (0, 0, 0) 5).1).1).use ⟨_, _, _, _, rfl, (join_ok (6, 5, 2)).use ⟨_, _, _, _, rfl, vb ?_, rfl⟩⟩⟩⟩⟩)
  decide
theorem law_ok (s : S) (n : Int) : Pure Try.prog 4 #[sup s, .int .i64 n] (.bool true) := by
  intro H
  refine f4.vc s.1 s.2.1 s.2.2 n H _ ((hear_ok s n).use ⟨_, _, _, _, rfl, (hear2_ok s n).use ⟨_, _, _, _, rfl, (deal_ok s).use ⟨_, _, _, _, rfl, (deal2_ok s).use ⟨_, _, _, _, rfl, (join_ok s).use ⟨_, _, _, _, rfl, (join2_ok s).use ⟨_, _, _, _, rfl,
    H, Sub.refl H, fun _ => ⟨fun _ => ⟨fun _ => ⟨fun _ => (doubt_ok s).use ⟨_, _, _, rfl, Sub.refl H, (doubt2_ok s).use ⟨_, _, _, rfl, Sub.refl H, fun _ => ⟨fun _ => ⟨fun _ => alive_ok.use ⟨_, rfl, Sub.refl H, rfl, rfl⟩, fun h => ?_⟩, fun h => ?_⟩, fun h => ?_⟩⟩, fun h => ?_⟩, fun h => ?_⟩, fun h => ?_⟩, fun h => ?_⟩⟩⟩⟩⟩⟩)
  all_goals (exfalso; simp at h)
end Go.Proofs.Ytkmojhkmekijoaa.Fence
