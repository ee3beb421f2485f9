/- Plain law of an index: entries whose keys rise. -/
import Derived.Test.YtcdgeeakfoofpaaTxtP
namespace Go.Idx
open Go.Vx Go.Txt

abbrev En := ByteArray × Int × Int × Int
abbrev Ky := ByteArray × Int
abbrev z0 : En := (ByteArray.empty, 0, 0, 0)
abbrev key (e : En) : Ky := (e.1, e.2.1)
def kLt (a b : Ky) : Bool := if eqS a.1 b.1 then decide (a.2 < b.2) else lessS a.1 b.1
theorem kLt_iff {a b : Ky} : kLt a b = true ↔ (a.1 = b.1 ∧ a.2 < b.2) ∨ lessS a.1 b.1 = true := by
  unfold kLt
  by_cases h : eqS a.1 b.1 = true
  · have e := eqS_iff.1 h
    rw [if_pos h, e, lessS_irrefl]
    simp
  · rw [if_neg h]
    have e : a.1 ≠ b.1 := fun e => h (eqS_iff.2 e)
    simp [e]
theorem kLt_irrefl (a : Ky) : kLt a a = false := by
  cases h : kLt a a with
  | false => rfl
  | true => rw [kLt_iff, lessS_irrefl] at h; simp at h
theorem kLt_trans {a b c : Ky} (h1 : kLt a b = true) (h2 : kLt b c = true) : kLt a c = true := by
  rw [kLt_iff] at *
  rcases h1 with ⟨e1, h1⟩ | h1 <;> rcases h2 with ⟨e2, h2⟩ | h2
  · exact .inl ⟨e1.trans e2, by omega⟩
  · rw [e1]; exact .inr h2
  · rw [← e2]; exact .inr h1
  · exact .inr (lessS_trans h1 h2)
theorem kLt_asymm {a b : Ky} (h : kLt a b = true) : kLt b a = false := by
  cases h2 : kLt b a with
  | false => rfl
  | true => have := kLt_trans h h2; rw [kLt_irrefl] at this; cases this
theorem kLt_total {a b : Ky} (h : a ≠ b) : kLt a b = true ∨ kLt b a = true := by
  rw [kLt_iff, kLt_iff]
  by_cases e : a.1 = b.1
  · have : a.2 ≠ b.2 := fun e2 => h (Prod.ext e e2)
    rcases Int.lt_or_gt_of_ne this with h1 | h1
    · exact .inl (.inl ⟨e, h1⟩)
    · exact .inr (.inl ⟨e.symm, h1⟩)
  · rcases lessS_total e with h1 | h1
    · exact .inl (.inr h1)
    · exact .inr (.inr h1)
theorem key_eq {a b : Ky} : (eqS a.1 b.1 && a.2 == b.2) = true ↔ a = b := by
  rw [Bool.and_eq_true, eqS_iff, beq_iff_eq]
  constructor
  · rintro ⟨h1, h2⟩; exact Prod.ext h1 h2
  · rintro rfl; exact ⟨rfl, rfl⟩

def Sorted (l : List En) : Prop := l.Pairwise fun a b => kLt (key a) (key b) = true
/-- A list, cut at a key. -/
structure Cut (l : List En) (k : Ky) (A M B : List En) : Prop where
  eq : l = A ++ M ++ B
  lo : ∀ a ∈ A, kLt (key a) k = true
  mid : M = [] ∨ ∃ m, M = [m] ∧ key m = k
  hi : ∀ b ∈ B, kLt k (key b) = true
theorem cut_ex (k : Ky) : ∀ {l : List En}, Sorted l → ∃ A M B, Cut l k A M B
  | [], _ => ⟨[], [], [], rfl, by simp, .inl rfl, by simp⟩
  | x :: xs, h => by
    obtain ⟨h1, h2⟩ := List.pairwise_cons.1 h
    by_cases e : key x = k
    · exact ⟨[], [x], xs, rfl, by simp, .inr ⟨x, rfl, e⟩, fun b hb => by rw [← e]; exact h1 b hb⟩
    · rcases kLt_total e with hl | hl
      · obtain ⟨A, M, B, c⟩ := cut_ex k h2
        refine ⟨x :: A, M, B, by rw [c.eq]; simp, fun a ha => ?_, c.mid, c.hi⟩
        rcases List.mem_cons.1 ha with rfl | ha
        · exact hl
        · exact c.lo a ha
      · refine ⟨[], [], x :: xs, rfl, by simp, .inl rfl, fun b hb => ?_⟩
        rcases List.mem_cons.1 hb with rfl | hb
        · exact hl
        · exact kLt_trans hl (h1 b hb)
namespace Cut
variable {l : List En} {k : Ky} {A M B : List En} (c : Cut l k A M B)
include c
theorem len : l.length = A.length + M.length + B.length := by rw [c.eq]; simp only [List.length_append]
theorem mlen : M.length ≤ 1 := by
  rcases c.mid with rfl | ⟨m, rfl, _⟩ <;> simp
theorem at_lo {i : Nat} (h : i < A.length) : l[i]? = A[i]? := by
  rw [c.eq, List.append_assoc, List.getElem?_append_left h]
theorem kind {i : Nat} {x : En} (h : l[i]? = some x) : (i < A.length ∧ kLt (key x) k = true) ∨ (i = A.length ∧ M = [x] ∧ key x = k) ∨ (A.length + M.length ≤ i ∧ kLt k (key x) = true) := by
  by_cases h1 : i < A.length
  · rw [c.at_lo h1] at h
    exact .inl ⟨h1, c.lo x (List.mem_of_getElem? h)⟩
  · rw [c.eq, List.append_assoc, List.getElem?_append_right (by omega)] at h
    by_cases h2 : i - A.length < M.length
    · rw [List.getElem?_append_left h2] at h
      rcases c.mid with rfl | ⟨m, rfl, hm⟩
      · simp at h2
      · have e : i - A.length = 0 := by simpa using h2
        rw [e] at h
        simp at h
        subst h
        exact .inr (.inl ⟨by omega, rfl, hm⟩)
    · rw [List.getElem?_append_right (by omega)] at h
      exact .inr (.inr ⟨by omega, c.hi x (List.mem_of_getElem? h)⟩)
theorem lt_at {i : Nat} {x : En} (h : l[i]? = some x) : kLt (key x) k = decide (i < A.length) := by
  rcases c.kind h with ⟨h1, h2⟩ | ⟨h1, _, h2⟩ | ⟨h1, h2⟩
  · rw [h2]; simp [h1]
  · rw [h2, kLt_irrefl]; simp [h1]
  · rw [kLt_asymm h2]
    have : ¬ i < A.length := by omega
    simp [this]
theorem gt_at (hM : M = []) {i : Nat} {x : En} (h : l[i]? = some x) : kLt k (key x) = decide (A.length ≤ i) := by
  rcases c.kind h with ⟨h1, h2⟩ | ⟨_, h1, _⟩ | ⟨h1, h2⟩
  · rw [kLt_asymm h2]
    have : ¬ A.length ≤ i := by omega
    simp [this]
  · rw [hM] at h1; cases h1
  · rw [h2]
    have : A.length ≤ i := by omega
    simp [this]
theorem key_at {i : Nat} {x : En} (h : l[i]? = some x) : key x = k ↔ i = A.length ∧ M ≠ [] := by
  rcases c.kind h with ⟨h1, h2⟩ | ⟨h1, h3, h2⟩ | ⟨h1, h2⟩
  · constructor
    · intro e; rw [e, kLt_irrefl] at h2; cases h2
    · rintro ⟨e, _⟩; omega
  · exact ⟨fun _ => ⟨h1, by rw [h3]; simp⟩, fun _ => h2⟩
  · constructor
    · intro e; rw [e, kLt_irrefl] at h2; cases h2
    · rintro ⟨e, h3⟩
      have : M.length ≠ 0 := fun e1 => h3 (List.eq_nil_of_length_eq_zero e1)
      omega
theorem mid_at (hM : M ≠ []) : ∃ m, M = [m] ∧ key m = k ∧ l[A.length]? = some m := by
  rcases c.mid with h | ⟨m, rfl, hm⟩
  · exact absurd h hM
  · refine ⟨m, rfl, hm, ?_⟩
    rw [c.eq, List.append_assoc, List.getElem?_append_right (Nat.le_refl _)]
    simp
theorem none_at (hM : M = []) {i : Nat} {x : En} (h : l[i]? = some x) : key x ≠ k := fun e => ((c.key_at h).1 e).2 hM
theorem take : l.take A.length = A := by rw [c.eq, List.append_assoc, List.take_left' rfl]
theorem drop : l.drop A.length = M ++ B := by rw [c.eq, List.append_assoc, List.drop_left' rfl]
theorem drop1 (hM : M ≠ []) : l.drop (A.length + 1) = B := by
  obtain ⟨m, rfl, _, _⟩ := c.mid_at hM
  rw [← List.drop_drop, c.drop]
  rfl
theorem set (hM : M ≠ []) (e : En) : l.set A.length e = A ++ e :: B := by
  obtain ⟨m, rfl, _, _⟩ := c.mid_at hM
  rw [c.eq, List.append_assoc, List.set_append_right _ _ (Nat.le_refl _)]
  simp
theorem put (e : En) (he : key e = k) : Cut (A ++ e :: B) k A [e] B := ⟨by simp, c.lo, .inr ⟨e, rfl, he⟩, c.hi⟩
theorem without : Cut (A ++ B) k A [] B := ⟨by simp, c.lo, .inl rfl, c.hi⟩
end Cut
theorem Sorted.cut {l : List En} (h : Sorted l) {k : Ky} {A M B : List En} (c : Cut l k A M B) : Sorted (A ++ B) := by
  unfold Sorted at *
  rw [c.eq] at h
  exact h.sublist (by rw [List.append_assoc]; exact List.Sublist.append_left (List.sublist_append_right _ _) _)
theorem Sorted.put {l : List En} (h : Sorted l) {e : En} {A M B : List En} (c : Cut l (key e) A M B) : Sorted (A ++ e :: B) := by
  have h1 := h.cut c
  unfold Sorted at *
  rw [List.pairwise_append] at h1 ⊢
  refine ⟨h1.1, List.pairwise_cons.2 ⟨fun b hb => c.hi b hb, h1.2.1⟩, fun a ha b hb => ?_⟩
  rcases List.mem_cons.1 hb with rfl | hb
  · exact c.lo a ha
  · exact h1.2.2 a ha b hb

/-! ### Names -/
def namesL (l : List En) : List ByteArray := l.foldl (fun out e => addN out e.1) []
theorem namesL_snoc (l : List En) (e : En) : namesL (l ++ [e]) = addN (namesL l) e.1 := by
  unfold namesL
  rw [List.foldl_append]
  rfl
theorem le_of_kLt {a b : En} (h : kLt (key a) (key b) = true) : a.1 = b.1 ∨ lessS a.1 b.1 = true := by
  rcases kLt_iff.1 h with ⟨h, _⟩ | h
  · exact .inl h
  · exact .inr h
/-- Of a list whose keys rise, the names rise, and are no greater than what comes next. -/
theorem names_inv {l : List En} : ∀ (n : Nat), n ≤ l.length → Sorted l → Rising (namesL (l.take n)) ∧ ∀ t ∈ namesL (l.take n), ∃ x ∈ l.take n, x.1 = t
  | 0, _, _ => by simp [namesL, Rising]
  | n + 1, h, hs => by
    obtain ⟨h1, h2⟩ := names_inv n (by omega) hs
    obtain ⟨e, he⟩ : ∃ e, l[n]? = some e := ⟨_, List.getElem?_eq_getElem (by omega)⟩
    have ht : l.take (n + 1) = l.take n ++ [e] := by rw [List.take_add_one, he]; rfl
    have hle : ∀ t ∈ namesL (l.take n), t = e.1 ∨ lessS t e.1 = true := by
      intro t ht'
      obtain ⟨x, hx, rfl⟩ := h2 t ht'
      have hs2 : Sorted (l.take n ++ [e]) := by rw [← ht]; exact hs.sublist (List.take_sublist _ _)
      exact le_of_kLt ((List.pairwise_append.1 hs2).2.2 x hx e (by simp))
    rw [ht, namesL_snoc]
    refine ⟨(add_last h1 hle).2, fun t ht' => ?_⟩
    rcases mem_addN ht' with h3 | rfl
    · obtain ⟨x, hx, e1⟩ := h2 t h3
      exact ⟨x, by simp [hx], e1⟩
    · exact ⟨e, by simp, rfl⟩
theorem names_step {l : List En} {n : Nat} {e : En} (he : l[n]? = some e) (hs : Sorted l) : namesL (l.take (n + 1)) = addN (namesL (l.take n)) e.1 ∧ addL (namesL (l.take n)) e.1 = addN (namesL (l.take n)) e.1 := by
  have hn : n < l.length := (List.getElem?_eq_some_iff.1 he).1
  obtain ⟨h1, h2⟩ := names_inv n (by omega) hs
  have ht : l.take (n + 1) = l.take n ++ [e] := by rw [List.take_add_one, he]; rfl
  refine ⟨by rw [ht, namesL_snoc], (add_last h1 fun t ht' => ?_).1⟩
  obtain ⟨x, hx, rfl⟩ := h2 t ht'
  have hs2 : Sorted (l.take n ++ [e]) := by rw [← ht]; exact hs.sublist (List.take_sublist _ _)
  exact le_of_kLt ((List.pairwise_append.1 hs2).2.2 x hx e (by simp))
theorem namesL_len (l : List En) : (namesL l).length ≤ l.length := by
  have : ∀ (l : List En) (o : List ByteArray), (l.foldl (fun out e => addN out e.1) o).length ≤ o.length + l.length := by
    intro l
    induction l with
    | nil => intro o; simp
    | cons x xs ih =>
      intro o
      have h1 := ih (addN o x.1)
      have h2 := addN_len o x.1
      simp only [List.foldl_cons, List.length_cons]
      omega
  simpa [namesL] using this l []
end Go.Idx
