/- Runs put together: the plain words, no program in sight. -/
namespace Go.Comp
abbrev Rn := Int × Int
def apartF : Int → List Rn → Bool
  | _, [] => true
  | next, r :: l => if r.1 < next ∨ r.2 < 1 ∨ r.1 ≥ 256 ∨ r.2 > 256 - r.1 then false else apartF (r.1 + r.2) l
def okRun (r : Rn) : Prop := 0 ≤ r.1 ∧ r.1 ≤ 255 ∧ 1 ≤ r.2 ∧ r.2 ≤ 256 - r.1
def covers (r : Rn) (i : Int) : Prop := r.1 ≤ i ∧ i < r.1 + r.2
def MapOk (l : List Rn) : Prop := (∀ r ∈ l, okRun r) ∧ l.Pairwise fun a b => ∀ i, covers a i → ¬ covers b i
def incr : List Rn → Bool
  | a :: b :: l => decide (a.1 < b.1) && incr (b :: l)
  | _ => true
theorem apart_ge : ∀ {l : List Rn} {next : Int}, apartF next l = true → ∀ r ∈ l, next ≤ r.1 ∧ 1 ≤ r.2 ∧ r.1 + r.2 ≤ 256
  | [], _, _, r, hr => by simp at hr
  | a :: l, next, h, r, hr => by
    unfold apartF at h
    split at h
    · cases h
    · rename_i hc
      rcases List.mem_cons.1 hr with rfl | hr
      · omega
      · have := apart_ge h r hr
        omega
theorem apart_pw : ∀ {l : List Rn} {next : Int}, apartF next l = true → l.Pairwise fun a b => a.1 + a.2 ≤ b.1
  | [], _, _ => List.Pairwise.nil
  | a :: l, next, h => by
    unfold apartF at h
    split at h
    · cases h
    · exact List.pairwise_cons.2 ⟨fun b hb => (apart_ge h b hb).1, apart_pw h⟩
theorem apart_of : ∀ {l : List Rn} {next : Int}, (∀ r ∈ l, okRun r) → (l.Pairwise fun a b => ∀ i, covers a i → ¬ covers b i) → incr l = true → (∀ r, l.head? = some r → next ≤ r.1) → apartF next l = true
  | [], _, _, _, _, _ => rfl
  | a :: l, next, h1, h2, h3, h4 => by
    have ha := h1 a (List.mem_cons_self ..)
    have hn := h4 a rfl
    unfold okRun at ha
    unfold apartF
    rw [if_neg (by omega)]
    refine apart_of (fun r hr => h1 r (List.mem_cons_of_mem _ hr)) (List.pairwise_cons.1 h2).2 ?_ ?_
    · cases l with
      | nil => rfl
      | cons b l => simp only [incr, Bool.and_eq_true] at h3; exact h3.2
    · intro b hb
      cases l with
      | nil => simp at hb
      | cons b' l =>
        simp at hb
        subst hb
        simp only [incr, Bool.and_eq_true, decide_eq_true_eq] at h3
        have hb := h1 b' (by simp)
        have hd := (List.pairwise_cons.1 h2).1 b' (by simp) b'.1
        unfold covers at hd
        unfold okRun at hb
        omega
theorem apart_iff (l : List Rn) : apartF 0 l = true ↔ MapOk l ∧ incr l = true := by
  constructor
  · intro h
    have hp := apart_pw h
    refine ⟨⟨fun r hr => ?_, ?_⟩, ?_⟩
    · have := apart_ge h r hr; unfold okRun; omega
    · exact hp.imp fun {a b} hab i h1 h2 => by unfold covers at h1 h2; omega
    · have key : ∀ (l : List Rn), (∀ r ∈ l, 1 ≤ r.2) → (l.Pairwise fun a b => a.1 + a.2 ≤ b.1) → incr l = true := by
        intro l
        induction l with
        | nil => intros; rfl
        | cons a l ih =>
          intro h1 h2
          cases l with
          | nil => rfl
          | cons b l =>
            simp only [incr, Bool.and_eq_true, decide_eq_true_eq]
            have := (List.pairwise_cons.1 h2).1 b (by simp)
            have := h1 a (by simp)
            exact ⟨by omega, ih (fun r hr => h1 r (List.mem_cons_of_mem _ hr)) (List.pairwise_cons.1 h2).2⟩
      exact key l (fun r hr => (apart_ge h r hr).2.1) hp
  · rintro ⟨⟨h1, h2⟩, h3⟩
    exact apart_of h1 h2 h3 fun r hr => (h1 r (List.mem_of_mem_head? hr)).1
/-- The runs' lengths, summed. -/
def sumN : List Rn → Int
  | [] => 0
  | r :: l => r.2 + sumN l
def packL : Int → List Rn → List (Rn × Int)
  | _, [] => []
  | to, r :: l => (r, to) :: packL (to + r.2) l
theorem packL_len : ∀ (l : List Rn) (to : Int), (packL to l).length = l.length
  | [], _ => rfl
  | r :: l, to => by simp [packL, packL_len l]
theorem packL_get : ∀ (l : List Rn) (to : Int) (i : Nat) (r : Rn), l[i]? = some r → (packL to l)[i]? = some (r, to + sumN (l.take i))
  | [], _, i, r, h => by simp at h
  | a :: l, to, 0, r, h => by simp at h; subst h; simp [packL, sumN]
  | a :: l, to, i + 1, r, h => by
    simp at h
    simp only [packL, List.getElem?_cons_succ, List.take_succ_cons, sumN]
    rw [packL_get l _ i r h, Int.add_assoc]
def moveOf (x : Rn × Int) : List (Int × Int × Int) := if x.1.1 ≠ x.2 then [(x.1.1, x.2, x.1.2)] else []
def movesF (l : List Rn) : List (Int × Int × Int) := (packL 0 l).flatMap moveOf
theorem sumN_take_succ : ∀ (l : List Rn) (i : Nat) (r : Rn), l[i]? = some r → sumN (l.take (i + 1)) = sumN (l.take i) + r.2
  | [], i, r, h => by simp at h
  | a :: l, 0, r, h => by simp at h; subst h; simp [sumN]
  | a :: l, i + 1, r, h => by
    simp at h
    simp only [List.take_succ_cons, sumN]
    rw [sumN_take_succ l i r h, Int.add_assoc]
theorem sumN_bound {l : List Rn} (hb : ∀ r ∈ l, 0 ≤ r.2 ∧ r.2 ≤ 256) : ∀ i, 0 ≤ sumN (l.take i) ∧ sumN (l.take i) ≤ 256 * i := by
  induction l with
  | nil => intro i; simp [sumN]; omega
  | cons a l ih =>
    intro i
    cases i with
    | zero => simp [sumN]
    | succ i =>
      have h1 := ih (fun r hr => hb r (List.mem_cons_of_mem _ hr)) i
      have h2 := hb a (by simp)
      simp only [List.take_succ_cons, sumN]
      omega
end Go.Comp
