/- Runs that are moved, one by one, until they lie behind one another: the plain words. -/
import Derived.Test.YtkmojhkmekijoaaCompP
namespace Go.Comp
/-- The first i runs have been moved. -/
def pkF : Int → Nat → List Rn → List Rn
  | _, _, [] => []
  | _, 0, l => l
  | to, i + 1, r :: l => (to, r.2) :: pkF (to + r.2) i l
theorem pk_nil (to : Int) (i : Nat) : pkF to i [] = [] := by cases i <;> rfl
theorem pk_zero (to : Int) (l : List Rn) : pkF to 0 l = l := by cases l <;> rfl
theorem pk_len : ∀ (l : List Rn) (to : Int) (i : Nat), (pkF to i l).length = l.length
  | [], _, _ => by rw [pk_nil]
  | r :: l, to, 0 => rfl
  | r :: l, to, i + 1 => by simp [pkF, pk_len l]
theorem apart_mono : ∀ {l : List Rn} {next to : Int}, apartF next l = true → to ≤ next → apartF to l = true
  | [], _, _, _, _ => rfl
  | r :: l, next, to, h, hle => by
    unfold apartF at h ⊢
    split at h
    · cases h
    · rw [if_neg (by omega)]; exact h
theorem pk_apart : ∀ (l : List Rn) (i : Nat) {next to : Int}, apartF next l = true → to ≤ next → apartF to (pkF to i l) = true
  | [], _, _, _, _, _ => by rw [pk_nil]; rfl
  | r :: l, 0, next, to, h, hle => by rw [pk_zero]; exact apart_mono h hle
  | r :: l, i + 1, next, to, h, hle => by
    unfold apartF at h
    split at h
    · cases h
    · unfold pkF apartF
      rw [if_neg (by simp only; omega)]
      exact pk_apart l i h (by omega)
theorem pk_get : ∀ (l : List Rn) (to : Int) (i k : Nat) (r : Rn), l[k]? = some r → (pkF to i l)[k]? = some (if k < i then (to + sumN (l.take k), r.2) else r)
  | [], _, _, _, _, h => by simp at h
  | a :: l, to, 0, k, r, h => by rw [pk_zero, h]; simp
  | a :: l, to, i + 1, 0, r, h => by simp at h; subst h; simp [pkF, sumN]
  | a :: l, to, i + 1, k + 1, r, h => by
    simp only [List.getElem?_cons_succ] at h
    simp only [pkF, List.getElem?_cons_succ, List.take_succ_cons, sumN]
    rw [pk_get l (to + a.2) i k r h]
    by_cases hk : k < i
    · rw [if_pos hk, if_pos (by omega), Int.add_assoc]
    · rw [if_neg hk, if_neg (by omega)]
theorem pk_set : ∀ (l : List Rn) (to : Int) (i : Nat) (r : Rn), l[i]? = some r → pkF to (i + 1) l = (pkF to i l).set i (to + sumN (l.take i), r.2)
  | [], _, _, _, h => by simp at h
  | a :: l, to, 0, r, h => by simp at h; subst h; simp [pkF, pk_zero, sumN]
  | a :: l, to, i + 1, r, h => by
    simp only [List.getElem?_cons_succ] at h
    have := pk_set l (to + a.2) i r h
    simp only [pkF, List.set_cons_succ, List.take_succ_cons, sumN] at this ⊢
    rw [this, Int.add_assoc]
theorem pk_same {l : List Rn} {to : Int} {i : Nat} {r : Rn} (h : l[i]? = some r) (he : r.1 = to + sumN (l.take i)) : pkF to (i + 1) l = pkF to i l := by
  rw [pk_set l to i r h, ← he]
  have := pk_get l to i i r h
  rw [if_neg (by omega)] at this
  have hl := (List.getElem?_eq_some_iff.1 this)
  obtain ⟨h1, h2⟩ := hl
  rw [show (r.1, r.2) = r from rfl, ← h2, List.set_getElem_self]
theorem pk_sum : ∀ (l : List Rn) (to : Int) (i k : Nat), sumN ((pkF to i l).take k) = sumN (l.take k)
  | [], _, _, k => by simp [pkF]
  | a :: l, to, 0, k => by rw [pk_zero]
  | a :: l, to, i + 1, 0 => by simp
  | a :: l, to, i + 1, k + 1 => by simp only [pkF, List.take_succ_cons, sumN]; rw [pk_sum l]
theorem sumN_le {l : List Rn} : ∀ {next to : Int}, apartF next l = true → to ≤ next → ∀ (i : Nat) (r : Rn), l[i]? = some r → to + sumN (l.take i) ≤ r.1 := by
  induction l with
  | nil => intro next to _ _ i r h; simp at h
  | cons a l ih =>
    intro next to h hle i r hr
    unfold apartF at h
    split at h
    · cases h
    · cases i with
      | zero => simp at hr; subst hr; simp [sumN]; omega
      | succ i =>
        simp only [List.getElem?_cons_succ] at hr
        have := ih (to := to + a.2) h (by omega) i r hr
        simp only [List.take_succ_cons, sumN]
        omega
/-- The next move. -/
theorem next_move (l : List Rn) : ∀ (f i : Nat) (m : Int × Int × Int) (rest : List (Int × Int × Int)), l.length - i = f → ((packL 0 l).drop i).flatMap moveOf = m :: rest →
    ∃ (j : Nat) (r : Rn), l[j]? = some r ∧ m = (r.1, sumN (l.take j), r.2) ∧ r.1 ≠ sumN (l.take j) ∧ rest = ((packL 0 l).drop (j + 1)).flatMap moveOf ∧ pkF 0 i l = pkF 0 j l
  | 0, i, m, rest, hf, h => by
    rw [List.drop_of_length_le (by rw [packL_len]; omega)] at h
    simp at h
  | f + 1, i, m, rest, hf, h => by
    have hi : i < l.length := by omega
    have hr := List.getElem?_eq_getElem hi
    have hg := packL_get l 0 i _ hr
    rw [Int.zero_add] at hg
    have hd : (packL 0 l).drop i = (l[i], sumN (l.take i)) :: (packL 0 l).drop (i + 1) := by
      have := List.drop_eq_getElem?_toList_append (l := packL 0 l) (i := i)
      rw [this, hg]; rfl
    rw [hd, List.flatMap_cons] at h
    by_cases he : (l[i]).1 = sumN (l.take i)
    · have : moveOf (l[i], sumN (l.take i)) = [] := by unfold moveOf; rw [if_neg (by simpa using he)]
      rw [this, List.nil_append] at h
      obtain ⟨j, r, h1, h2, h3, h4, h5⟩ := next_move l f (i + 1) m rest (by omega) h
      exact ⟨j, r, h1, h2, h3, h4, by rw [← h5]; exact (pk_same hr (by rw [Int.zero_add]; exact he)).symm⟩
    · have : moveOf (l[i], sumN (l.take i)) = [((l[i]).1, sumN (l.take i), (l[i]).2)] := by unfold moveOf; rw [if_pos (by simpa using he)]
      rw [this] at h
      simp at h
      exact ⟨i, l[i], hr, h.1.symm, he, h.2.symm, rfl⟩
theorem last_move (l : List Rn) : ∀ (f i : Nat), l.length - i = f → ((packL 0 l).drop i).flatMap moveOf = [] → pkF 0 i l = pkF 0 l.length l
  | 0, i, hf, h => by
    have key : ∀ (l : List Rn) (to : Int) (i : Nat), l.length ≤ i → pkF to i l = pkF to l.length l := by
      intro l
      induction l with
      | nil => intros; rw [pk_nil, pk_nil]
      | cons a l ih =>
        intro to i hi
        cases i with
        | zero => simp at hi
        | succ i => simp only [pkF, List.length_cons]; rw [ih _ i (by simpa using hi)]
    exact key l 0 i (by omega)
  | f + 1, i, hf, h => by
    have hi : i < l.length := by omega
    have hr := List.getElem?_eq_getElem hi
    have hg := packL_get l 0 i _ hr
    rw [Int.zero_add] at hg
    have hd : (packL 0 l).drop i = (l[i], sumN (l.take i)) :: (packL 0 l).drop (i + 1) := by
      have := List.drop_eq_getElem?_toList_append (l := packL 0 l) (i := i)
      rw [this, hg]; rfl
    rw [hd, List.flatMap_cons] at h
    obtain ⟨h1, h2⟩ := List.append_eq_nil_iff.1 h
    have he : (l[i]).1 = sumN (l.take i) := by
      unfold moveOf at h1
      split at h1
      · cases h1
      · rename_i hn; simpa using hn
    rw [← last_move l f (i + 1) (by omega) h2]
    exact (pk_same hr (by rw [Int.zero_add]; exact he)).symm
/-- A run's place tells it. -/
theorem pk_only {l : List Rn} (h : apartF 0 l = true) {j : Nat} {r : Rn} (hr : l[j]? = some r) (hne : r.1 ≠ sumN (l.take j)) {k : Nat} {q : Rn} (hq : (pkF 0 j l)[k]? = some q) (he : q.1 = r.1) : k = j := by
  have hp := apart_pw (pk_apart l j h (Int.le_refl 0))
  have hge := apart_ge (pk_apart l j h (Int.le_refl 0))
  have hj := pk_get l 0 j j r hr
  rw [if_neg (by omega)] at hj
  obtain ⟨hk1, hk2⟩ := List.getElem?_eq_some_iff.1 hq
  obtain ⟨hj1, hj2⟩ := List.getElem?_eq_some_iff.1 hj
  have g1 := hge q (List.mem_of_getElem? hq)
  have g2 := hge r (List.mem_of_getElem? hj)
  rcases Nat.lt_trichotomy k j with hlt | heq | hgt
  · have := List.pairwise_iff_getElem.1 hp k j hk1 hj1 hlt
    rw [hk2, hj2] at this
    omega
  · exact heq
  · have := List.pairwise_iff_getElem.1 hp j k hj1 hk1 hgt
    rw [hk2, hj2] at this
    omega
end Go.Comp
