/- The slots that no run has: the plain words. -/
import Derived.Test.YtkmojhkmekijoabCompP
namespace Go.Comp
def gapAdd (slots next to : Int) : List Rn := if (if slots < to then slots else to) > next then [(next, (if slots < to then slots else to) - next)] else []
def gapsF (slots : Int) : Int → List Rn → List Rn
  | next, [] => gapAdd slots next slots
  | next, r :: l => gapAdd slots next r.1 ++ gapsF slots (r.1 + r.2) l
def covB (l : List Rn) (i : Nat) : Bool := l.any fun r => decide (r.1 ≤ i) && decide ((i : Int) < r.1 + r.2)
def push (out : List Rn) (i : Int) : List Rn :=
  match out.getLast? with
  | some r => if r.1 + r.2 = i then out.dropLast ++ [(r.1, r.2 + 1)] else out ++ [(i, 1)]
  | none => [(i, 1)]
def scan (c : Nat → Bool) : Nat → List Rn
  | 0 => []
  | k + 1 => if c k = true then scan c k else push (scan c k) k
theorem push_snoc (L : List Rn) (x : Rn) (i : Int) : push (L ++ [x]) i = if x.1 + x.2 = i then L ++ [(x.1, x.2 + 1)] else L ++ [x] ++ [(i, 1)] := by
  unfold push
  rw [List.getLast?_concat]
  simp only [List.dropLast_concat]
def noEnd (out : List Rn) (k : Int) : Prop := ∀ r, out.getLast? = some r → r.1 + r.2 ≠ k
theorem push_no {out : List Rn} {i : Int} (h : noEnd out i) : push out i = out ++ [(i, 1)] := by
  unfold push
  cases hl : out.getLast? with
  | none => rw [List.getLast?_eq_none_iff.1 hl]; rfl
  | some r => simp only; rw [if_neg (h r hl)]
theorem scan_le (c : Nat → Bool) : ∀ (k : Nat) (r : Rn), (scan c k).getLast? = some r → r.1 + r.2 ≤ k
  | 0, r, h => by simp [scan] at h
  | k + 1, r, h => by
    unfold scan at h
    split at h
    · have := scan_le c k r h; omega
    · unfold push at h
      split at h
      · rename_i q hq
        have := scan_le c k q hq
        split at h
        · rw [List.getLast?_concat] at h; cases h; simp only; omega
        · rw [List.getLast?_concat] at h; cases h; simp only; omega
      · simp at h; subst h; simp only; omega
theorem scan_free (c : Nat → Bool) (a : Nat) (hn : noEnd (scan c a) a) : ∀ (n : Nat), (∀ i, a ≤ i → i < a + n → c i = false) → scan c (a + n) = scan c a ++ (if 0 < n then [((a : Int), (n : Int))] else [])
  | 0, _ => by simp
  | n + 1, h => by
    have ih := scan_free c a hn n (fun i h1 h2 => h i h1 (by omega))
    rw [← Nat.add_assoc, scan, if_neg (by rw [h (a + n) (by omega) (by omega)]; simp), if_pos (by omega), ih]
    by_cases h0 : 0 < n
    · rw [if_pos h0, push_snoc, if_pos (by simp only; omega)]
      congr 2
    · have : n = 0 := by omega
      subst this
      rw [if_neg h0, List.append_nil]
      exact push_no hn
theorem scan_cov (c : Nat → Bool) (a : Nat) : ∀ (n : Nat), (∀ i, a ≤ i → i < a + n → c i = true) → scan c (a + n) = scan c a
  | 0, _ => rfl
  | n + 1, h => by
    rw [← Nat.add_assoc, scan, if_pos (h (a + n) (by omega) (by omega))]
    exact scan_cov c a n fun i h1 h2 => h i h1 (by omega)
theorem gaps_nil (slots : Int) : ∀ (l : List Rn) (next : Int), apartF next l = true → slots ≤ next → gapsF slots next l = []
  | [], next, _, h => by unfold gapsF gapAdd; rw [if_neg (by split <;> omega)]
  | r :: l, next, ha, h => by
    unfold apartF at ha
    split at ha
    · cases ha
    · unfold gapsF
      rw [gaps_nil slots l _ ha (by omega)]
      unfold gapAdd
      rw [if_neg (by split <;> omega)]
      rfl
theorem covB_false {l : List Rn} {next : Int} (h : apartF next l = true) {i : Nat} (hi : (i : Int) < next) : covB l i = false := by
  unfold covB
  rw [List.any_eq_false]
  intro r hr
  have := apart_ge h r hr
  simp only [Bool.and_eq_true, decide_eq_true_eq]
  omega
theorem scan_gaps (c : Nat → Bool) (slots : Nat) : ∀ (l : List Rn) (next : Nat), apartF next l = true → (∀ i : Nat, next ≤ i → c i = covB l i) → noEnd (scan c next) next → next ≤ slots →
    scan c slots = scan c next ++ gapsF slots next l
  | [], next, _, hc, hn, hle => by
    have := scan_free c next hn (slots - next) (fun i h1 _ => hc i h1)
    rw [show next + (slots - next) = slots by omega] at this
    rw [this]
    unfold gapsF gapAdd
    simp only [Int.lt_irrefl, if_false]
    by_cases h : next < slots
    · rw [if_pos (by omega), if_pos (by omega)]
      congr 3; omega
    · rw [if_neg (by omega), if_neg (by omega)]
  | r :: l, next, ha, hc, hn, hle => by
    have ha' := ha
    unfold apartF at ha'
    split at ha'
    · cases ha'
    rename_i hr
    obtain ⟨a, hra⟩ : ∃ a : Nat, r.1 = a := ⟨r.1.toNat, by omega⟩
    obtain ⟨n, hrn⟩ : ∃ n : Nat, r.2 = n := ⟨r.2.toNat, by omega⟩
    have hfree : ∀ i : Nat, next ≤ i → i < a → c i = false := fun i h1 h2 => by
      rw [hc i h1]
      unfold covB
      rw [List.any_cons, Bool.or_eq_false_iff]
      exact ⟨by simp; omega, covB_false ha' (by omega)⟩
    have hcov : ∀ i : Nat, a ≤ i → i < a + n → c i = true := fun i h1 h2 => by
      rw [hc i (by omega)]
      unfold covB
      rw [List.any_cons]
      have : (decide (r.1 ≤ (i : Int)) && decide ((i : Int) < r.1 + r.2)) = true := by simp; omega
      rw [this, Bool.true_or]
    unfold gapsF
    by_cases hs : slots ≤ a
    · rw [gaps_nil slots l _ ha' (by omega), List.append_nil]
      have := scan_free c next hn (slots - next) (fun i h1 h2 => hfree i h1 (by omega))
      rw [show next + (slots - next) = slots by omega] at this
      rw [this]
      unfold gapAdd
      have e : (if (slots : Int) < r.1 then (slots : Int) else r.1) = slots := by split <;> omega
      rw [e]
      by_cases h : next < slots
      · rw [if_pos (by omega), if_pos (by omega)]
        congr 3; omega
      · rw [if_neg (by omega), if_neg (by omega)]
    · have h1 := scan_free c next hn (a - next) (fun i h1 h2 => hfree i h1 (by omega))
      rw [show next + (a - next) = a by omega] at h1
      have h2 : scan c a = scan c next ++ gapAdd slots next r.1 := by
        rw [h1]
        unfold gapAdd
        have e : (if (slots : Int) < r.1 then (slots : Int) else r.1) = a := by split <;> omega
        rw [e]
        by_cases h : next < a
        · rw [if_pos (by omega), if_pos (by omega)]
          congr 3; omega
        · rw [if_neg (by omega), if_neg (by omega)]
      by_cases he : a + n ≤ slots
      · have h3 := scan_cov c a n hcov
        have h4 := scan_gaps c slots l (a + n) (by rw [show ((a + n : Nat) : Int) = r.1 + r.2 by omega]; exact ha') (fun i hi => by
          rw [hc i (by omega)]
          unfold covB
          rw [List.any_cons]
          have : (decide (r.1 ≤ (i : Int)) && decide ((i : Int) < r.1 + r.2)) = false := by simp; omega
          rw [this, Bool.false_or]) (fun q hq => by
            rw [h3] at hq
            have := scan_le c a q hq
            omega) he
        rw [h4, h3, h2, List.append_assoc, show ((a + n : Nat) : Int) = r.1 + r.2 by omega]
      · have h3 := scan_cov c a (slots - a) (fun i h1 h2 => hcov i h1 (by omega))
        rw [show a + (slots - a) = slots by omega] at h3
        rw [h3, h2, gaps_nil slots l _ ha' (by omega), List.append_nil]
end Go.Comp
