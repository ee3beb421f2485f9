/- Plain law of texts: rising lists, one more, and a sorted list of distinct texts. -/
import Derived.Test.YtlhnepjidbofnaaDoorTxtP
import Derived.Test.YtlhnepjidbofnaaDoorE3
namespace Go.Lab
open Go.Vx Go.Txt

theorem rising_ext : ∀ {l m : List ByteArray}, Rising l → Rising m → (∀ x, x ∈ l ↔ x ∈ m) → l = m
  | [], [], _, _, _ => rfl
  | [], y :: _, _, _, h => by have := (h y).2 (by simp); simp at this
  | x :: _, [], _, _, h => by have := (h x).1 (by simp); simp at this
  | x :: xs, y :: ys, h1, h2, h => by
    obtain ⟨a1, a2⟩ := List.pairwise_cons.1 h1
    obtain ⟨b1, b2⟩ := List.pairwise_cons.1 h2
    have e : x = y := by
      refine Classical.byContradiction fun hne => ?_
      have hx : x ∈ ys := by
        rcases List.mem_cons.1 ((h x).1 (by simp)) with e | hx
        · exact absurd e hne
        · exact hx
      have hy : y ∈ xs := by
        rcases List.mem_cons.1 ((h y).2 (by simp)) with e | hy
        · exact absurd e.symm hne
        · exact hy
      have := lessS_asymm (a1 y hy)
      rw [b1 x hx] at this; cases this
    subst e
    have hxs : x ∉ xs := fun hm => by have := a1 x hm; rw [lessS_irrefl] at this; cases this
    have hys : x ∉ ys := fun hm => by have := b1 x hm; rw [lessS_irrefl] at this; cases this
    rw [rising_ext a2 b2 fun z => ⟨fun hz => by
      rcases List.mem_cons.1 ((h z).1 (by simp [hz])) with rfl | hz'
      · exact absurd hz hxs
      · exact hz', fun hz => by
      rcases List.mem_cons.1 ((h z).2 (by simp [hz])) with rfl | hz'
      · exact absurd hz hys
      · exact hz'⟩]
theorem takeWhile_mem {α : Type} {p : α → Bool} {l : List α} {x : α} (h : x ∈ l.takeWhile p) : p x = true := by
  induction l with
  | nil => simp at h
  | cons y ys ih =>
    rw [List.takeWhile_cons] at h
    split at h
    · rcases List.mem_cons.1 h with rfl | h
      · assumption
      · exact ih h
    · simp at h
theorem dropWhile_head {α : Type} {p : α → Bool} : ∀ {l : List α} {y : α} {r : List α}, l.dropWhile p = y :: r → p y = false
  | [], _, _, h => by simp at h
  | x :: xs, y, r, h => by
    rw [List.dropWhile_cons] at h
    split at h
    · exact dropWhile_head h
    · injection h with h1 h2
      subst h1
      simpa using (by assumption : ¬ p x = true)
theorem take_tw {α : Type} (p : α → Bool) (l : List α) : l.take (l.takeWhile p).length = l.takeWhile p ∧ l.drop (l.takeWhile p).length = l.dropWhile p := by
  have h := List.takeWhile_append_dropWhile (p := p) (l := l)
  generalize l.takeWhile p = A at *
  generalize l.dropWhile p = B at *
  subst h
  exact ⟨List.take_left' rfl, List.drop_left' rfl⟩
theorem add_rising {l : List ByteArray} (s : ByteArray) (h : Rising l) : Rising (addL l s) ∧ ∀ x, x ∈ addL l s ↔ x ∈ l ∨ x = s := by
  obtain ⟨e1, e2⟩ := take_tw (fun t => lessS t s) l
  have hl := List.takeWhile_append_dropWhile (p := fun t => lessS t s) (l := l)
  unfold addL
  split
  · rename_i hs
    refine ⟨h, fun x => ⟨.inl, ?_⟩⟩
    rintro (hx | rfl)
    · exact hx
    · cases hg : l[(l.takeWhile fun t => lessS t x).length]? with
      | none => rw [hg] at hs; simp at hs
      | some t =>
        rw [hg] at hs
        simp at hs
        rw [← eqS_iff.1 hs]
        exact List.mem_of_getElem? hg
  · rename_i hs
    rw [e1, e2]
    have hlo : ∀ x ∈ l.takeWhile (fun t => lessS t s), lessS x s = true := fun x hx => takeWhile_mem (p := fun t => lessS t s) hx
    have hsub : Rising (l.takeWhile (fun t => lessS t s) ++ l.dropWhile (fun t => lessS t s)) := by rw [hl]; exact h
    obtain ⟨p1, p2, p3⟩ := List.pairwise_append.1 hsub
    have hhi : ∀ x ∈ l.dropWhile (fun t => lessS t s), lessS s x = true := by
      cases hd : l.dropWhile (fun t => lessS t s) with
      | nil => simp
      | cons y r =>
        have hy : lessS y s = false := dropWhile_head (p := fun t => lessS t s) hd
        have hyl : l[(l.takeWhile fun t => lessS t s).length]? = some y := by
          have : (l.drop (l.takeWhile fun t => lessS t s).length)[0]? = some y := by rw [e2, hd]; rfl
          rwa [List.getElem?_drop, Nat.add_zero] at this
        rw [hyl] at hs
        have hne : y ≠ s := by simpa [eqS_iff] using hs
        have hsy : lessS s y = true := by
          rcases lessS_total hne with h1 | h1
          · rw [hy] at h1; cases h1
          · exact h1
        rw [hd] at p2
        obtain ⟨q1, _⟩ := List.pairwise_cons.1 p2
        intro x hx
        rcases List.mem_cons.1 hx with rfl | hx
        · exact hsy
        · exact lessS_trans hsy (q1 x hx)
    refine ⟨List.pairwise_append.2 ⟨p1, List.pairwise_cons.2 ⟨hhi, p2⟩, fun a ha b hb => ?_⟩, fun x => ?_⟩
    · rcases List.mem_cons.1 hb with rfl | hb
      · exact hlo a ha
      · exact p3 a ha b hb
    · rw [List.mem_append, List.mem_cons]
      conv => rhs; rw [← hl, List.mem_append]
      constructor
      · rintro (h1 | h1 | h1)
        · exact .inl (.inl h1)
        · exact .inr h1
        · exact .inl (.inr h1)
      · rintro ((h1 | h1) | h1)
        · exact .inl h1
        · exact .inr (.inr h1)
        · exact .inr (.inl h1)
/-- All texts, one behind the other. -/
def mergeL (l : List ByteArray) : List ByteArray := l.foldl addL []
theorem foldl_rising : ∀ (l : List ByteArray) {o : List ByteArray}, Rising o → Rising (l.foldl addL o) ∧ ∀ x, x ∈ l.foldl addL o ↔ x ∈ o ∨ x ∈ l
  | [], o, h => ⟨h, fun x => by simp⟩
  | s :: l, o, h => by
    obtain ⟨h1, h2⟩ := add_rising s h
    obtain ⟨h3, h4⟩ := foldl_rising l h1
    refine ⟨h3, fun x => ?_⟩
    rw [List.foldl_cons, h4, h2, List.mem_cons]
    constructor
    · rintro ((h | h) | h)
      · exact .inl h
      · exact .inr (.inl h)
      · exact .inr (.inr h)
    · rintro (h | h | h)
      · exact .inl (.inl h)
      · exact .inl (.inr h)
      · exact .inr h
theorem mergeL_rising (l : List ByteArray) : Rising (mergeL l) ∧ ∀ x, x ∈ mergeL l ↔ x ∈ l := by
  obtain ⟨h1, h2⟩ := foldl_rising l (o := []) List.Pairwise.nil
  exact ⟨h1, fun x => by rw [mergeL, h2]; simp⟩
theorem addL_len (l : List ByteArray) (s : ByteArray) : (addL l s).length ≤ l.length + 1 := by
  unfold addL
  split
  · omega
  · rw [List.length_append, List.length_cons, List.length_take, List.length_drop]; omega
theorem foldl_len : ∀ (l : List ByteArray) (o : List ByteArray), (l.foldl addL o).length ≤ o.length + l.length
  | [], o => by simp
  | s :: l, o => by
    have h1 := foldl_len l (addL o s)
    have h2 := addL_len o s
    rw [List.foldl_cons, List.length_cons]
    omega

/-! ### Sorted -/
abbrev ofB (x : ByteArray) : List UInt8 := x.data.toList
abbrev toB (x : List UInt8) : ByteArray := ⟨x.toArray⟩
theorem toB_ofB (x : ByteArray) : toB (ofB x) = x := by cases x; simp [toB, ofB]
theorem ofB_toB (x : List UInt8) : ofB (toB x) = x := by simp [toB, ofB]
theorem bl_lt : ∀ (x y : List UInt8), Op.bytesLess x y = decide (x < y)
  | [], [] => by simp [Op.bytesLess]
  | _ :: _, [] => by simp [Op.bytesLess]
  | [], _ :: _ => by simp [Op.bytesLess]
  | a :: x, b :: y => by
    rw [Op.bytesLess, bl_lt x y]
    simp only [List.cons_lt_cons_iff]
    by_cases h1 : a < b <;> by_cases h2 : a = b <;> by_cases h3 : x < y <;> simp [h1, h2, h3]
theorem le_iff (x y : List UInt8) : decide (x ≤ y) = !Op.bytesLess y x := by
  rw [bl_lt]
  by_cases h : y < x
  · have : ¬ x ≤ y := fun h2 => h2 h
    simp [h, this]
  · have : x ≤ y := h
    simp [h, this]
theorem less_ofB (x y : ByteArray) : lessS x y = Op.bytesLess (ofB x) (ofB y) := by unfold lessS; rw [toListB, toListB]
/-- Distinct texts, sorted, rise. -/
theorem sorted_rising {l : List ByteArray} (hn : l.Nodup) : Rising (((l.map ofB).mergeSort fun x y => decide (x ≤ y)).map toB) ∧ ∀ x, x ∈ ((l.map ofB).mergeSort fun x y => decide (x ≤ y)).map toB ↔ x ∈ l := by
  have hp := List.mergeSort_perm (l.map ofB) (fun x y => decide (x ≤ y))
  have hmem : ∀ x, x ∈ ((l.map ofB).mergeSort fun x y => decide (x ≤ y)).map toB ↔ x ∈ l := fun x => by
    rw [List.mem_map]
    constructor
    · rintro ⟨y, hy, rfl⟩
      obtain ⟨z, hz, rfl⟩ := List.mem_map.1 (hp.mem_iff.1 hy)
      rw [toB_ofB]; exact hz
    · intro hx
      exact ⟨ofB x, hp.mem_iff.2 (List.mem_map.2 ⟨x, hx, rfl⟩), toB_ofB x⟩
  refine ⟨?_, hmem⟩
  have hs := List.pairwise_mergeSort (le := fun x y : List UInt8 => decide (x ≤ y)) (fun a b c h1 h2 => by
    rw [le_iff] at *
    simp only [Bool.not_eq_true'] at *
    cases h3 : Op.bytesLess c a with
    | false => rfl
    | true =>
      by_cases e : b = a
      · subst e; rw [h2] at h3; cases h3
      · rcases bytesLess_total e with h4 | h4
        · rw [h1] at h4; cases h4
        · have := bytesLess_trans h3 h4; rw [h2] at this; cases this) (fun a b => by
    rw [le_iff, le_iff]
    cases h1 : Op.bytesLess b a with
    | false => rfl
    | true =>
      cases h2 : Op.bytesLess a b with
      | false => rfl
      | true => have := bytesLess_trans h1 h2; rw [bytesLess_irrefl] at this; cases this) (l.map ofB)
  have hnd : (l.map ofB).Nodup := by
    rw [List.nodup_iff_pairwise_ne, List.pairwise_map]
    exact hn.imp fun {a b} hne e => hne (by rw [← toB_ofB a, e, toB_ofB])
  have hnd2 := hp.nodup_iff.2 hnd
  have hboth : ((l.map ofB).mergeSort fun x y => decide (x ≤ y)).Pairwise fun a b => Op.bytesLess a b = true := by
    refine List.Pairwise.imp₂ (R := fun a b => decide (a ≤ b) = true) (S := fun a b => a ≠ b) (fun a b h1 h2 => ?_) hs hnd2
    rw [le_iff] at h1
    rcases bytesLess_total h2 with h3 | h3
    · exact h3
    · rw [h3] at h1; cases h1
  unfold Rising
  rw [List.pairwise_map]
  exact hboth.imp fun h => by rw [less_ofB, ofB_toB, ofB_toB]; exact h

/-! ### Behind a text -/
theorem after_drop {s : ByteArray} : ∀ {l : List ByteArray} {i : Nat}, Rising l → (∀ j x, j < i → l[j]? = some x → lessS s x = false) → (∀ x, l[i]? = some x → lessS s x = true) → i ≤ l.length → l.filter (fun x => lessS s x) = l.drop i := by
  intro l i h h1 h2 h3
  have e : l = l.take i ++ l.drop i := (List.take_append_drop i l).symm
  have f1 : (l.take i).filter (fun x => lessS s x) = [] := by
    rw [List.filter_eq_nil_iff]
    intro x hx
    obtain ⟨j, hj⟩ := List.getElem?_of_mem hx
    rw [List.getElem?_take] at hj
    split at hj
    · rw [h1 j x (by assumption) hj]; simp
    · cases hj
  have f2 : (l.drop i).filter (fun x => lessS s x) = l.drop i := by
    rw [List.filter_eq_self]
    intro x hx
    cases hd : l.drop i with
    | nil => rw [hd] at hx; simp at hx
    | cons y r =>
      have hy : lessS s y = true := h2 y (by
        have : (l.drop i)[0]? = some y := by rw [hd]; rfl
        rwa [List.getElem?_drop, Nat.add_zero] at this)
      have hr : Rising (y :: r) := by rw [← hd]; exact h.sublist (List.drop_sublist _ _)
      rw [hd] at hx
      rcases List.mem_cons.1 hx with rfl | hx
      · exact hy
      · exact lessS_trans hy ((List.pairwise_cons.1 hr).1 x hx)
  conv => lhs; rw [e, List.filter_append, f1, f2, List.nil_append]
end Go.Lab
