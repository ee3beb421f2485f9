/- The contracts of the index: a pointer to a slice of entries whose keys rise. -/
import Derived.Test.YtcdgeeakfoofpaaInsert
namespace Go.Idx
open Go.Vx Go.Vc Go.Proofs

theorem labelLess_ok (s t : ByteArray) : Pure Try.prog 32 #[.string s, .string t] (.bool (lessS s t)) := fun H => labelLess.vc s t H _ ⟨rfl, rfl⟩
theorem less_ok (s t : ByteArray) (n m : Int) : Pure Try.prog 28 #[.agg #[.string s, .int .i64 n], .agg #[.string t, .int .i64 m]] (.bool (kLt (s, n) (t, m))) := fun H => by
  refine lessI.vc s n t m H _ ⟨fun h => (labelLess_ok s t).use ⟨_, rfl, ?_, rfl⟩, fun h => ⟨?_, rfl⟩⟩
  · have h' : eqS s t = false := by simpa using h
    simp [kLt, h']
  · have h' : eqS s t = true := by simpa using h
    simp [kLt, h']
/-- The library's search, of a function that only computes. -/
theorem search_ok {H : PHeap} {n r : Nat} {f : Value} (hn : n ≤ 1000) (hr : r ≤ n) (hf : ∀ i : Nat, i < n → ∀ Q : Value → PHeap → Prop, Q (.bool (decide (r ≤ i))) H → CallY Try.prog f #[.int .i64 i] H Q) :
    Triple Try.prog 26 #[.int .i64 n, f] H fun v H' => v = .int .i64 r ∧ H' = H := by
  refine search.vc n f H _ ⟨fun l H' => match l with | [.int _ i, .int _ j] => 0 ≤ i ∧ i ≤ r ∧ (r : Int) ≤ j ∧ j ≤ n ∧ H' = H | _ => False, fun l _ => match l with | [.int _ i, .int _ j] => (j - i).toNat | _ => 0, ⟨by omega, by omega, by omega, by omega, rfl⟩, ?_⟩
  rintro i j H1 ⟨h1, h2, h3, h4, rfl⟩
  refine ⟨fun hij => ⟨⟨by omega⟩, ?_⟩, fun hij => ?_⟩
  · have hij : i < j := by simpa using hij
    rw [mid_of h1 (by omega) (by omega)]
    have hm0 : 0 ≤ (i + j) / 2 := by omega
    have hm1 : (i + j) / 2 < n := by omega
    have := hf ((i + j) / 2).toNat (by omega)
    rw [show ((((i + j) / 2).toNat : Nat) : Int) = (i + j) / 2 by omega] at this
    have ew : IntKind.i64.wrap ((i + j) / 2 + 1) = (i + j) / 2 + 1 := wrap64 (by omega) (by omega)
    rw [ew]
    refine this _ ⟨_, rfl, ?_⟩
    by_cases hc : r ≤ ((i + j) / 2).toNat
    · simp only [hc, decide_true, Bool.not_true, cond_false]
      exact ⟨⟨h1, h2, by omega, by omega, trivial⟩, ⟨by omega⟩⟩
    · simp only [hc, decide_false, Bool.not_false, cond_true]
      exact ⟨⟨by omega, by omega, h3, h4, trivial⟩, ⟨by omega⟩⟩
  · have : ¬ i < j := by simpa using hij
    exact ⟨by rw [show i = r by omega], rfl⟩

/-! ### Delete -/
theorem cut_two {α : Type} {p r z s : List α} {m : Nat} (h : p.length = m) : ((p ++ r).take m ++ z ++ s).take m = p := by
  rw [List.take_left' h, List.append_assoc, List.take_left' h]
theorem delete_ok {H : PHeap} {oa : Option Addr} {n c i : Nat} {l : List En} (how : OwnE H oa n c l) (hi : i < n) (hn : n ≤ 1000) :
    Triple Try.prog 23 #[.slice oa n c, .int .i64 i, .int .i64 (i + 1)] H fun v H' => v = .slice oa (n - 1) c ∧ OwnE H' oa (n - 1) c (l.take i ++ l.drop (i + 1)) ∧ Vx.Frame oa H H' := by
  have hrd := how.rd (E := eE) (sz := 4) (by omega) eLen
  have hll := hrd.len
  have ho : oa ≠ none := hrd.ne (i := i) (by omega) (by omega)
  have hcap : n ≤ c := by
    rcases how.row with ⟨_, h1, h2⟩ | ⟨_, _, _, _, h1, _⟩ <;> omega
  obtain ⟨a0, rfl⟩ : ∃ a0, oa = some a0 := by
    cases oa with
    | none => exact absurd rfl ho
    | some a0 => exact ⟨a0, rfl⟩
  have ea0 : a0 = ⟨a0.block, 0, none⟩ := by
    rcases how.row with ⟨e, _⟩ | ⟨g1, cur, e, _⟩
    · cases e
    · cases e; rfl
  have eA : ∀ p : Nat, elemA (some a0) (p : Int) 4 = some ⟨a0.block, p * 4, none⟩ := fun p => by
    conv => lhs; rw [ea0]
    simp [elemA, Addr.add_lit]
  have eB : ∀ p : Nat, (⟨a0.block, p * 4, none⟩ : Addr) = a0.add (p * 4) := fun p => by
    conv => rhs; rw [ea0]
    simp [Addr.add_lit]
  refine deleteI.vc (some a0) n c i (i + 1) H _ ⟨⟨by omega, by omega, by omega, by omega⟩, fun h => ?_, fun _ => ?_⟩
  · simp at h; omega
  have hds : ((l.drop (i + 1)).flatMap eE).length = (n - (i + 1)) * 4 := by rw [length_flatMap eLen, List.length_drop, hll]
  obtain ⟨H1, hw1, g1, hf1⟩ := how.put (p := i) (ys := (l.drop (i + 1)).flatMap eE) (by rw [hds]; omega) ho
  obtain ⟨H2, hw2, g2, hf2⟩ := g1.put (p := n - 1) (ys := eE z0) (by rw [eLen]; omega) ho
  rw [eA] at hw1 hw2
  rw [show ((i : Int) + 1) = ((i + 1 : Nat) : Int) by omega]
  simp only [slA_zero, Int.toNat_natCast, Int.toNat_zero, Nat.sub_zero]
  refine ⟨H, Sub.refl _, ⟨by omega, by omega, by omega⟩, ⟨by omega, by omega, by omega⟩, ?_⟩
  refine append_room tEn (cs := (l.drop (i + 1)).flatMap eE) hds (by omega) ?_ ?_ (.inr (by rw [← eB]; exact hw1)) (flatOne _) ?_
  · intro b hb j v hv
    have hjl := (List.getElem?_eq_some_iff.1 hv).1
    rw [hds] at hjl
    rw [slA_pos (show ((i + 1 : Nat) : Int) ≠ c by omega), eA] at hb
    cases hb
    rw [eB, hcell_add]
    refine hrd.flat eLen _ _ ?_
    have : l.flatMap eE = (l.take (i + 1)).flatMap eE ++ (l.drop (i + 1)).flatMap eE := by rw [← List.flatMap_append, List.take_append_drop]
    rw [this, List.getElem?_append_right (by rw [length_flatMap eLen, List.length_take]; omega), length_flatMap eLen, List.length_take, show (i + 1) * 4 + j - min (i + 1) l.length * 4 = j by rw [Nat.min_eq_left (by omega)]; omega]
    exact hv
  · intro e
    by_cases h : i + 1 = c
    · omega
    · rw [slA_pos (show ((i + 1 : Nat) : Int) ≠ c by omega), eA] at e
      cases e
  have e1 : i + (n - (i + 1)) = n - 1 := by omega
  rw [e1]
  refine ⟨_, _, _, rfl, ⟨by omega, by omega, by omega⟩, ?_⟩
  rw [slA_pos (show ((n - 1 : Nat) : Int) ≠ c by omega), eA]
  have e2 : n - (n - 1) = 1 := by omega
  rw [e2]
  refine clear_rw tEn (E := eE) (Z := z0) zEn (eOne z0) (fun e => by cases e) (.inr (by simpa using hw2)) ?_
  refine ⟨rfl, ?_, fun q o hq hn' => hf2 q o (hf1 q o hq hn') hn'⟩
  have g3 := g2.cut (m := n - 1) (by omega)
  have hfl : (l.flatMap eE).length = n * 4 := how.len
  have e3 : (l.flatMap eE).take (i * 4) = (l.take i).flatMap eE := by
    conv => lhs; rw [← List.take_append_drop i l, List.flatMap_append]
    rw [List.take_left' (by rw [length_flatMap eLen, List.length_take]; omega)]
  rw [e3] at g3
  show Owns H2 _ _ _ _ _ ((l.take i ++ l.drop (i + 1)).flatMap eE)
  rw [List.flatMap_append]
  have hti : ((l.take i).flatMap eE).length = i * 4 := by rw [length_flatMap eLen, List.length_take]; omega
  have e4 : ((l.take i).flatMap eE ++ (l.drop (i + 1)).flatMap eE).length = (n - 1) * 4 := by rw [List.length_append, hti, hds]; omega
  rw [cut_two e4] at g3
  exact g3
end Go.Idx
