/- Plain law of texts that rise. -/
import Derived.Test.YtlhnepjidbofnaaDoorE3
namespace Go.Txt
open Go.Vx

def addN (out : List ByteArray) (s : ByteArray) : List ByteArray := match out.getLast? with
  | some t => if eqS t s then out else out ++ [s]
  | none => out ++ [s]
def addL (l : List ByteArray) (s : ByteArray) : List ByteArray :=
  if (l[(l.takeWhile fun t => lessS t s).length]?).any (fun t => eqS t s) then l else l.take (l.takeWhile fun t => lessS t s).length ++ s :: l.drop (l.takeWhile fun t => lessS t s).length
def Rising (l : List ByteArray) : Prop := l.Pairwise fun a b => lessS a b = true
theorem takeWhile_all {α : Type} {p : α → Bool} : ∀ {l : List α}, (∀ x ∈ l, p x = true) → l.takeWhile p = l
  | [], _ => rfl
  | x :: xs, h => by
    rw [List.takeWhile_cons, if_pos (h x (by simp)), takeWhile_all fun y hy => h y (by simp [hy])]
theorem takeWhile_stop {α : Type} {p : α → Bool} {y : α} (hy : p y = false) : ∀ {l : List α}, (∀ x ∈ l, p x = true) → ∀ r, (l ++ y :: r).takeWhile p = l
  | [], _, r => by simp [hy]
  | x :: xs, h, r => by
    rw [List.cons_append, List.takeWhile_cons, if_pos (h x (by simp)), takeWhile_stop hy (fun y hy => h y (by simp [hy])) r]
theorem add_last {out : List ByteArray} {s : ByteArray} (hr : Rising out) (hs : ∀ t ∈ out, t = s ∨ lessS t s = true) : addL out s = addN out s ∧ Rising (addN out s) := by
  rcases List.eq_nil_or_concat out with rfl | ⟨o, t, rfl⟩
  · exact ⟨rfl, by simp [addN, Rising]⟩
  · rw [List.concat_eq_append] at *
    unfold Rising at hr
    have hr2 := List.pairwise_append.1 hr
    have ht : ∀ x ∈ o, lessS x t = true := fun x hx => hr2.2.2 x hx t (by simp)
    by_cases e : t = s
    · subst e
      have h1 : addN (o ++ [t]) t = o ++ [t] := by simp [addN, eqS_iff.2 rfl]
      refine ⟨?_, by rw [h1]; exact hr⟩
      rw [h1]
      unfold addL
      rw [takeWhile_stop (p := fun x => lessS x t) (lessS_irrefl t) ht []]
      simp [eqS_iff.2 rfl]
    · have hl : ∀ x ∈ o ++ [t], lessS x s = true := by
        intro x hx
        have hts : lessS t s = true := by
          rcases hs t (by simp) with h | h
          · exact absurd h e
          · exact h
        rcases List.mem_append.1 hx with hx | hx
        · exact lessS_trans (ht x hx) hts
        · simp at hx; rw [hx]; exact hts
      have h1 : addN (o ++ [t]) s = o ++ [t] ++ [s] := by simp [addN, eqS_false.2 e]
      refine ⟨?_, ?_⟩
      · rw [h1]
        unfold addL
        rw [takeWhile_all hl, List.getElem?_eq_none (Nat.le_refl _), if_neg (by simp), List.take_of_length_le (Nat.le_refl _), List.drop_of_length_le (Nat.le_refl _)]
      · rw [h1]
        exact List.pairwise_append.2 ⟨hr, by simp, fun x hx y hy => by simp at hy; rw [hy]; exact hl x hx⟩
theorem mem_addN {out : List ByteArray} {s t : ByteArray} (h : t ∈ addN out s) : t ∈ out ∨ t = s := by
  unfold addN at h
  split at h
  · split at h
    · exact .inl h
    · simpa using h
  · simpa using h
theorem addN_len (out : List ByteArray) (s : ByteArray) : (addN out s).length ≤ out.length + 1 := by
  unfold addN
  split
  · split <;> simp
  · simp
end Go.Txt
