/- Heaps of numbers in a list, and numbers that rise, in plain words. -/
import Derived.KernelRfl
namespace Go.Hp

abbrev G (l : List Int) (i : Nat) : Int := l.getD i 0
theorem G_lt {l : List Int} {i : Nat} (h : i < l.length) : l[i]? = some (G l i) := by
  simp [G, List.getD_eq_getElem?_getD, List.getElem?_eq_getElem h]
theorem mem_G {l : List Int} {x : Int} : x ∈ l ↔ ∃ k, k < l.length ∧ G l k = x := by
  rw [List.mem_iff_getElem?]
  constructor
  · rintro ⟨i, hi⟩
    have hl := (List.getElem?_eq_some_iff.1 hi).1
    rw [G_lt hl] at hi
    exact ⟨i, hl, by injection hi⟩
  · rintro ⟨i, hl, hi⟩
    exact ⟨i, by rw [G_lt hl, hi]⟩
def swapL (l : List Int) (i j : Nat) : List Int := (l.set i (G l j)).set j (G l i)
theorem swap_len (l : List Int) (i j : Nat) : (swapL l i j).length = l.length := by simp [swapL]
theorem swap_get {l : List Int} {i j : Nat} (hi : i < l.length) (hj : j < l.length) (k : Nat) : G (swapL l i j) k = if k = j then G l i else if k = i then G l j else G l k := by
  unfold swapL
  simp only [G, List.getD_eq_getElem?_getD, List.getElem?_set, List.length_set]
  by_cases h1 : k = j
  · subst h1; simp [hj]
  · by_cases h2 : k = i
    · subst h2; simp [h1, Ne.symm h1, hi]
    · simp [h1, h2, Ne.symm h1, Ne.symm h2]
theorem swap_mem {l : List Int} {i j : Nat} (hi : i < l.length) (hj : j < l.length) (x : Int) : x ∈ swapL l i j ↔ x ∈ l := by
  rw [mem_G, mem_G, swap_len]
  constructor
  · rintro ⟨k, hk, rfl⟩
    rw [swap_get hi hj]
    split
    · exact ⟨i, hi, rfl⟩
    · split
      · exact ⟨j, hj, rfl⟩
      · exact ⟨k, hk, rfl⟩
  · rintro ⟨k, hk, rfl⟩
    by_cases h1 : k = j
    · exact ⟨i, hi, by rw [swap_get hi hj]; subst h1; split <;> simp_all⟩
    · by_cases h2 : k = i
      · exact ⟨j, hj, by rw [swap_get hi hj, if_pos rfl, h2]⟩
      · exact ⟨k, hk, by rw [swap_get hi hj, if_neg h1, if_neg h2]⟩
/-- A heap of the first n. -/
def Hn (l : List Int) (n : Nat) : Prop := ∀ c, 0 < c → c < n → G l ((c - 1) / 2) ≤ G l c
theorem root_least {l : List Int} {n : Nat} (h : Hn l n) : ∀ c, c < n → G l 0 ≤ G l c := by
  intro c
  induction c using Nat.strongRecOn with
  | ind c ih =>
    intro hc
    rcases Nat.eq_zero_or_pos c with rfl | h0
    · exact Int.le_refl _
    · exact Int.le_trans (ih ((c - 1) / 2) (by omega) (by omega)) (h c h0 hc)
/-! ### Up -/
structure Up (l : List Int) (j : Nat) : Prop where
  oth : ∀ c, 0 < c → c < l.length → c ≠ j → G l ((c - 1) / 2) ≤ G l c
  sub : ∀ c, 0 < j → 0 < c → c < l.length → (c - 1) / 2 = j → G l ((j - 1) / 2) ≤ G l c
theorem G_app {l : List Int} {x : Int} {k : Nat} (h : k < l.length) : G (l ++ [x]) k = G l k := by
  simp [G, List.getD_eq_getElem?_getD, List.getElem?_append_left h]
theorem up_push {l : List Int} {x : Int} (h : Hn l l.length) : Up (l ++ [x]) l.length := by
  refine ⟨fun c h0 hc hne => ?_, fun c _ h0 hc he => ?_⟩
  · rw [List.length_append, List.length_singleton] at hc
    rw [G_app (by omega), G_app (by omega)]
    exact h c h0 (by omega)
  · rw [List.length_append, List.length_singleton] at hc; omega
theorem up_step {l : List Int} {j : Nat} (h : Up l j) (hj : j < l.length) (h0 : 0 < j) (hlt : G l j < G l ((j - 1) / 2)) : Up (swapL l ((j - 1) / 2) j) ((j - 1) / 2) := by
  have hi : (j - 1) / 2 < l.length := by omega
  generalize hij : (j - 1) / 2 = i at *
  refine ⟨fun c c0 hc hne => ?_, fun c i0 c0 hc he => ?_⟩
  · rw [swap_len] at hc
    rw [swap_get hi hj, swap_get hi hj]
    by_cases e : c = j
    · subst e
      rw [hij]
      rw [if_neg (by omega), if_pos rfl, if_pos rfl]
      omega
    · rw [if_neg e, if_neg hne]
      have h1 := h.oth c c0 hc e
      by_cases e1 : (c - 1) / 2 = j
      · rw [if_pos e1]
        have := h.sub c h0 c0 hc e1
        rwa [hij] at this
      · rw [if_neg e1]
        by_cases e2 : (c - 1) / 2 = i
        · rw [if_pos e2]
          rw [e2] at h1; omega
        · rw [if_neg e2]; exact h1
  · rw [swap_len] at hc
    rw [swap_get hi hj, swap_get hi hj]
    rw [if_neg (by omega), if_neg (by omega)]
    have h1 := h.oth i i0 hi (by omega)
    by_cases e : c = j
    · rw [if_pos e]; exact h1
    · rw [if_neg e, if_neg (by omega)]
      have h2 := h.oth c c0 hc e
      rw [he] at h2; omega
theorem up_end {l : List Int} {j : Nat} (h : Up l j) (hj : j = 0 ∨ G l ((j - 1) / 2) ≤ G l j) : Hn l l.length := by
  intro c c0 hc
  by_cases e : c = j
  · subst e
    rcases hj with h1 | h1
    · omega
    · exact h1
  · exact h.oth c c0 hc e
/-! ### Down -/
structure Dn (l : List Int) (n i : Nat) : Prop where
  oth : ∀ c, 0 < c → c < n → (c - 1) / 2 ≠ i → G l ((c - 1) / 2) ≤ G l c
  sub : ∀ c, 0 < i → 0 < c → c < n → (c - 1) / 2 = i → G l ((i - 1) / 2) ≤ G l c
theorem dn_pop {l : List Int} {n : Nat} (hl : l.length = n + 1) (h : Hn l (n + 1)) : Dn (swapL l 0 n) n 0 := by
  refine ⟨fun c c0 hc hne => ?_, fun c h0 => by omega⟩
  rw [swap_get (by omega) (by omega), swap_get (by omega) (by omega), if_neg (by omega), if_neg hne, if_neg (by omega), if_neg (by omega)]
  exact h c c0 (by omega)
theorem dn_step {l : List Int} {n i j : Nat} (h : Dn l n i) (hn : n ≤ l.length) (hj : j < n) (hc : j = 2 * i + 1 ∨ j = 2 * i + 2) (hlt : G l j < G l i) (hm : ∀ c, 0 < c → c < n → (c - 1) / 2 = i → G l j ≤ G l c) : Dn (swapL l i j) n j := by
  have hi : i < l.length := by omega
  have hj' : j < l.length := by omega
  have hji : (j - 1) / 2 = i := by omega
  refine ⟨fun c c0 hcn hne => ?_, fun c j0 c0 hcn he => ?_⟩
  · rw [swap_get hi hj', swap_get hi hj', if_neg hne]
    by_cases e : (c - 1) / 2 = i
    · rw [if_pos e]
      by_cases e1 : c = j
      · rw [if_pos e1]; omega
      · rw [if_neg e1, if_neg (by omega)]; exact hm c c0 hcn e
    · rw [if_neg e]
      have h1 := h.oth c c0 hcn e
      rw [if_neg (by omega)]
      by_cases e1 : c = i
      · rw [if_pos e1]
        subst e1
        exact h.sub j (by omega) (by omega) hj hji
      · rw [if_neg e1]; exact h1
  · rw [swap_get hi hj', swap_get hi hj', hji, if_neg (by omega), if_pos rfl, if_neg (by omega), if_neg (by omega)]
    have := h.oth c c0 hcn (by omega)
    rw [he] at this; exact this
theorem dn_end {l : List Int} {n i : Nat} (h : Dn l n i) (hm : ∀ c, 0 < c → c < n → (c - 1) / 2 = i → G l i ≤ G l c) : Hn l n := by
  intro c c0 hc
  by_cases e : (c - 1) / 2 = i
  · rw [e]; exact hm c c0 hc e
  · exact h.oth c c0 hc e
/-! ### Numbers that rise -/
def Asc (l : List Int) : Prop := l.Pairwise (· < ·)
theorem asc_ext : ∀ {l m : List Int}, Asc l → Asc m → (∀ x, x ∈ l ↔ x ∈ m) → l = m
  | [], [], _, _, _ => rfl
  | [], y :: m, _, _, h => by have := (h y).2 (by simp); cases this
  | x :: l, [], _, _, h => by have := (h x).1 (by simp); cases this
  | x :: l, y :: m, hl, hm, h => by
    have hl' := List.pairwise_cons.1 hl
    have hm' := List.pairwise_cons.1 hm
    have hxy : x = y := by
      rcases List.mem_cons.1 ((h x).1 (by simp)) with e | e
      · exact e
      · rcases List.mem_cons.1 ((h y).2 (by simp)) with e' | e'
        · exact e'.symm
        · have h1 := hm'.1 x e
          have h2 := hl'.1 y e'
          omega
    subst hxy
    congr 1
    refine asc_ext hl'.2 hm'.2 fun z => ?_
    have hz := h z
    constructor
    · intro hz'
      have h1 := hl'.1 z hz'
      rcases List.mem_cons.1 (hz.1 (by simp [hz'])) with e | e
      · omega
      · exact e
    · intro hz'
      have h1 := hm'.1 z hz'
      rcases List.mem_cons.1 (hz.2 (by simp [hz'])) with e | e
      · omega
      · exact e
/-- A number is put in where it belongs, once. -/
def addI (l : List Int) (x : Int) : List Int := if x ∈ l then l else l.takeWhile (· < x) ++ x :: l.dropWhile (· < x)
theorem addI_mem (l : List Int) (x y : Int) : y ∈ addI l x ↔ y ∈ l ∨ y = x := by
  unfold addI
  split
  · rename_i h
    constructor
    · exact .inl
    · rintro (h1 | rfl)
      · exact h1
      · exact h
  · have : y ∈ l ↔ y ∈ l.takeWhile (· < x) ∨ y ∈ l.dropWhile (· < x) := by
      conv => lhs; rw [← List.takeWhile_append_dropWhile (p := fun y => decide (y < x)) (l := l)]
      rw [List.mem_append]
    rw [this]
    simp only [List.mem_append, List.mem_cons]
    constructor
    · rintro (h | rfl | h)
      · exact .inl (.inl h)
      · exact .inr rfl
      · exact .inl (.inr h)
    · rintro ((h | h) | rfl)
      · exact .inl h
      · exact .inr (.inr h)
      · exact .inr (.inl rfl)
theorem tw_lt {x y : Int} : ∀ {l : List Int}, y ∈ l.takeWhile (· < x) → y < x
  | [], h => by cases h
  | z :: zs, h => by
    rw [List.takeWhile_cons] at h
    split at h
    · rename_i hz
      rcases List.mem_cons.1 h with rfl | h
      · simpa using hz
      · exact tw_lt h
    · cases h
theorem dw_ge {x y : Int} : ∀ {l : List Int}, Asc l → y ∈ l.dropWhile (· < x) → x ≤ y
  | [], _, h => by cases h
  | z :: zs, ha, h => by
    have ha' := List.pairwise_cons.1 ha
    rw [List.dropWhile_cons] at h
    split at h
    · exact dw_ge ha'.2 h
    · rename_i hz
      simp at hz
      rcases List.mem_cons.1 h with rfl | h
      · exact hz
      · have := ha'.1 y h; omega
theorem addI_asc {l : List Int} {x : Int} (h : Asc l) : Asc (addI l x) := by
  unfold addI
  split
  · exact h
  · rename_i hx
    have h' := h
    unfold Asc at h'
    rw [← List.takeWhile_append_dropWhile (p := fun y => decide (y < x)) (l := l), List.pairwise_append] at h'
    refine List.pairwise_append.2 ⟨h'.1, List.pairwise_cons.2 ⟨fun y hy => ?_, h'.2.1⟩, fun a ha b hb => ?_⟩
    · have h1 := dw_ge h hy
      have h2 : y ∈ l := List.dropWhile_sublist (p := fun y => decide (y < x)) |>.subset hy
      have : x ≠ y := fun e => hx (e ▸ h2)
      omega
    · rcases List.mem_cons.1 hb with rfl | hb
      · exact tw_lt ha
      · exact h'.2.2 a ha b hb
/-- Numbers, rising, but some. -/
def restL (l w : List Int) : List Int := (l.filter fun x => !decide (x ∈ w)).foldl addI []
theorem foldI (l : List Int) : ∀ {o : List Int}, Asc o → Asc (l.foldl addI o) ∧ ∀ x, x ∈ l.foldl addI o ↔ x ∈ o ∨ x ∈ l := by
  induction l with
  | nil => intro o h; exact ⟨h, fun x => by simp⟩
  | cons y ys ih =>
    intro o h
    obtain ⟨h1, h2⟩ := ih (addI_asc (x := y) h)
    refine ⟨h1, fun x => ?_⟩
    rw [List.foldl_cons, h2, addI_mem, List.mem_cons, or_assoc]
theorem restL_spec (l w : List Int) : Asc (restL l w) ∧ ∀ x, x ∈ restL l w ↔ x ∈ l ∧ x ∉ w := by
  obtain ⟨h1, h2⟩ := foldI (l.filter fun x => !decide (x ∈ w)) (o := []) List.Pairwise.nil
  refine ⟨h1, fun x => ?_⟩
  have := h2 x
  simpa [restL, List.mem_filter] using this
theorem addI_len (l : List Int) (x : Int) : (addI l x).length ≤ l.length + 1 := by
  unfold addI
  split
  · omega
  · have := congrArg List.length (List.takeWhile_append_dropWhile (p := fun y => decide (y < x)) (l := l))
    simp only [List.length_append, List.length_cons] at *
    omega
theorem restL_len (l w : List Int) : (restL l w).length ≤ l.length := by
  have : ∀ (l o : List Int), (l.foldl addI o).length ≤ o.length + l.length := by
    intro l
    induction l with
    | nil => intro o; simp
    | cons y ys ih => intro o; have := ih (addI o y); have := addI_len o y; simp only [List.foldl_cons, List.length_cons]; omega
  have h1 := this (l.filter fun x => !decide (x ∈ w)) []
  have h2 := List.length_filter_le (fun x => !decide (x ∈ w)) l
  simp only [List.length_nil] at h1
  unfold restL
  omega
/-- The next one that is popped. -/
def popI (o : List Int) (x : Int) : List Int := if o.getLast? = some x then o else o ++ [x]
theorem popI_asc {o : List Int} {x : Int} (h : Asc o) (hx : ∀ y ∈ o, y ≤ x) : Asc (popI o x) ∧ ∀ y, y ∈ popI o x ↔ y ∈ o ∨ y = x := by
  unfold popI
  split
  · rename_i hl
    refine ⟨h, fun y => ⟨.inl, ?_⟩⟩
    rintro (h1 | rfl)
    · exact h1
    · exact List.mem_of_getLast? hl
  · rename_i hl
    refine ⟨List.pairwise_append.2 ⟨h, by simp, fun a ha b hb => ?_⟩, fun y => by simp⟩
    simp at hb
    subst hb
    have h1 := hx a ha
    by_cases e : a = b
    · exfalso
      subst e
      -- the last one is greater than all ahead of it
      cases hz : o.getLast? with
      | none => rw [List.getLast?_eq_none_iff] at hz; subst hz; cases ha
      | some z =>
        have hzm := List.mem_of_getLast? hz
        have h2 := hx z hzm
        obtain ⟨o', ho'⟩ : ∃ o', o = o' ++ [z] := by
          rw [List.getLast?_eq_some_iff] at hz
          exact hz
        subst ho'
        rcases List.mem_append.1 ha with h3 | h3
        · have := (List.pairwise_append.1 h).2.2 a h3 z (by simp)
          omega
        · simp at h3
          subst h3
          exact hl (by simp)
    · omega
end Go.Hp
