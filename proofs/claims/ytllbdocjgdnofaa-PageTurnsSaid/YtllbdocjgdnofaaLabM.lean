/- The contracts of names: all texts of lists by the reference, those behind one. -/
import Derived.Test.YtllbdocjgdnofaaLabB
namespace Go.Lab
open Go.Vx Go.Vc Go.Proofs Go.Txt

theorem refMerge_ok {H : PHeap} {oa : Option Addr} {n c : Nat} {ps : List TT} (h : RdT H oa n ps) (hn : n ≤ 100000) (hps : ∀ p ∈ ps, p.n ≤ 100000) (hall : (allT ps).length ≤ 99999) (hS : ∀ x ∈ allT ps, x.size ≤ 1000000) :
    Triple Try.prog 7 #[.slice oa n c] H fun v H' => ∃ b m k, v = .slice b m k ∧ RdL H' sE 1 b m (mergeL (allT ps)) ∧ m ≤ k ∧ Sub H H' := by
  have hl := h.top.len
  have pre : ∀ i, (allT (ps.take i)).length ≤ (allT ps).length := fun i => by
    have e : allT ps = allT (ps.take i) ++ allT (ps.drop i) := by unfold allT; rw [← List.flatMap_append, List.take_append_drop]
    rw [e, List.length_append]; omega
  refine refMerge.vc oa n c H _ ⟨fun t H' => match t with | [.slice b m k, .int _ i] => 0 ≤ i ∧ i ≤ n ∧ m ≤ k ∧ Sub H H' ∧ RdL H' sE 1 b m (mergeL (allT (ps.take i.toNat))) | _ => False, fun t _ => match t with | [_, .int _ i] => (n - i).toNat | _ => 0, ⟨by omega, by omega, Nat.le_refl _, Sub.refl _, RdL.nil _ _ _⟩, ?_⟩
  rintro b m k i H1 ⟨i0, i1, hmk, hs1, hrd⟩
  obtain ⟨i, rfl⟩ : ∃ j : Nat, i = j := ⟨i.toNat, by omega⟩
  rw [Int.toNat_natCast] at hrd
  refine ⟨fun hi => ?_, fun hi => ?_⟩
  · have hi' : i < n := by simpa using hi
    obtain ⟨p, hp⟩ : ∃ p, ps[i]? = some p := ⟨_, List.getElem?_eq_getElem (by omega)⟩
    have hpm := List.mem_of_getElem? hp
    have hpl := (h.each p hpm).len
    have hpn := hps p hpm
    have htop : ∀ {G : PHeap}, Sub H G → Reads G (elemA oa (i : Int) 1) [.slice p.oa p.n p.c] := fun hs => (h.mono hs).top.at (by omega) (by simpa using hp)
    have hob : ∀ {G : PHeap}, Sub H G → Ob (oa ≠ none ∧ 0 ≤ (i : Int) ∧ (i : Int) < n) := fun hs => (h.mono hs).top.ob (by omega) (by omega)
    refine ⟨fun t H' => match t with | [.slice b m k, .int _ j] => 0 ≤ j ∧ j ≤ p.n ∧ m ≤ k ∧ Sub H H' ∧ RdL H' sE 1 b m (mergeL (allT (ps.take i) ++ p.l.take j.toNat)) | _ => False, fun t _ => match t with | [_, .int _ j] => (p.n - j).toNat | _ => 0, ⟨by omega, by omega, hmk, hs1, by simpa using hrd⟩, ?_⟩
    rintro b2 m2 k2 j H2 ⟨j0, j1, hmk2, hs2, hrd2⟩
    obtain ⟨j, rfl⟩ : ∃ q : Nat, j = q := ⟨j.toNat, by omega⟩
    rw [Int.toNat_natCast] at hrd2
    have h2 := (h.each p hpm).mono hs2
    refine ⟨hob hs2, p.oa, p.n, p.c, htop hs2, fun hj => ?_, fun hj => ?_⟩
    · have hj' : j < p.n := by simpa using hj
      obtain ⟨x, hx, hxr⟩ := h2.ex (i := (j : Int)) (by omega) (by omega)
      rw [Int.toNat_natCast] at hx
      have hm2 := hrd2.len
      have hsub : ∀ t ∈ allT (ps.take i) ++ p.l.take j, t ∈ allT ps := fun t ht => by
        rcases List.mem_append.1 ht with ht | ht
        · obtain ⟨q, hq, hq2⟩ := List.mem_flatMap.1 ht
          exact List.mem_flatMap.2 ⟨q, List.mem_of_mem_take hq, hq2⟩
        · exact List.mem_flatMap.2 ⟨p, hpm, List.mem_of_mem_take ht⟩
      have hlen : (mergeL (allT (ps.take i) ++ p.l.take j)).length ≤ 99999 := by
        have h1 := foldl_len (allT (ps.take i) ++ p.l.take j) []
        have h3 := allT_take hp
        have h4 := pre (i + 1)
        rw [List.length_append, List.length_take] at h1
        unfold mergeL
        simp only [List.length_nil] at h1
        omega
      refine ⟨hob hs2, p.oa, p.n, p.c, htop hs2, h2.ob (by omega) (by omega), x, hxr, (add_ok hrd2 hmk2 (by omega) fun t ht => hS t (hsub t ((mergeL_rising _).2 t |>.1 ht))).mono ?_⟩
      rintro _ H3 ⟨b3, m3, k3, rfl, g1, g2, g3⟩
      rw [wrapS (by omega) (by omega)]
      refine ⟨b3, m3, k3, rfl, ⟨by omega, by omega, g2, hs2.trans g3, ?_⟩, ⟨by simp only; omega⟩⟩
      rw [show ((j : Int) + 1).toNat = j + 1 by omega, List.take_add_one, hx]
      have : mergeL (allT (ps.take i) ++ (p.l.take j ++ [x])) = addL (mergeL (allT (ps.take i) ++ p.l.take j)) x := by
        unfold mergeL
        rw [← List.append_assoc, List.foldl_append]
        rfl
      show RdL H3 sE 1 b3 m3 (mergeL (allT (ps.take i) ++ (p.l.take j ++ [x])))
      rw [this]; exact g1
    · have hj' : ¬ j < p.n := by simpa using hj
      rw [wrapS (by omega) (by omega)]
      refine ⟨⟨by omega, by omega, hmk2, hs2, ?_⟩, ⟨by simp only; omega⟩⟩
      rw [show ((i : Int) + 1).toNat = i + 1 by omega]
      rw [List.take_of_length_le (l := p.l) (by omega)] at hrd2
      have : allT (ps.take (i + 1)) = allT (ps.take i) ++ p.l := by
        unfold allT
        rw [List.take_add_one, hp, List.flatMap_append]
        simp
      rw [this]; exact hrd2
  · have hi' : ¬ i < n := by simpa using hi
    rw [List.take_of_length_le (by omega)] at hrd
    exact ⟨b, m, k, rfl, hrd, hmk, hs1⟩

/-! ### Behind a text -/
/-- How many are told, of r. -/
def told (most : Int) (r : Nat) : Nat := min most.toNat r
theorem after_ok {H : PHeap} {oa : Option Addr} {n c : Nat} {l : List ByteArray} {s : ByteArray} {most : Int} (hl : RdL H sE 1 oa n l) (hc : n ≤ c) (hn : n ≤ 100000) (hr : Rising l) :
    Triple Try.prog 10 #[.slice oa n c, .string s, .int .i64 most] H fun v H' => ∃ b k, v = .tuple #[.slice b (told most (l.filter fun x => lessS s x).length) k, .bool (decide (told most (l.filter fun x => lessS s x).length = (l.filter fun x => lessS s x).length))] ∧
      RdL H' sE 1 b (told most (l.filter fun x => lessS s x).length) ((l.filter fun x => lessS s x).take (told most (l.filter fun x => lessS s x).length)) ∧ Sub H H' := by
  have hll := hl.len
  have fin : ∀ (i : Nat), i ≤ n → (∀ j x, j < i → l[j]? = some x → lessS s x = false) → (∀ x, l[i]? = some x → lessS s x = true) →
      Ob (0 ≤ (i : Int) ∧ (i : Int) ≤ (n : Int) ∧ (n : Int) ≤ (c : Int)) ∧ ∀ k14 : Nat, H k14 = none →
        Ob ((0 : Int) ≤ 0 ∧ 0 ≤ minI (maxI most 0) (((n : Int).toNat - (i : Int).toNat : Nat) : Int) ∧ minI (maxI most 0) (((n : Int).toNat - (i : Int).toNat : Nat) : Int) ≤ ((c - (i : Int).toNat : Nat) : Int)) ∧
        EvV Try.prog (Builtin.append_ #[24, 24] 24 #[.slice (at0 k14) 0 0, .slice (slA (slA oa i c 1) 0 (c - (i : Int).toNat) 1) ((minI (maxI most 0) (((n : Int).toNat - (i : Int).toNat : Nat) : Int)).toNat - Int.toNat 0) (c - (i : Int).toNat - Int.toNat 0)]) (H.upd k14 (.cells #[] 9)) fun v15 H16 =>
          ∃ a17 k18 k19, v15 = Value.slice a17 k18 k19 ∧ ∃ b k, Value.tuple #[.slice a17 k18 k19, .bool (minI (maxI most 0) (((n : Int).toNat - (i : Int).toNat : Nat) : Int) == (((n : Int).toNat - (i : Int).toNat : Nat) : Int))] = .tuple #[.slice b (told most (l.filter fun x => lessS s x).length) k, .bool (decide (told most (l.filter fun x => lessS s x).length = (l.filter fun x => lessS s x).length))] ∧
            RdL H16 sE 1 b (told most (l.filter fun x => lessS s x).length) ((l.filter fun x => lessS s x).take (told most (l.filter fun x => lessS s x).length)) ∧ Sub H H16 := by
    intro i hi h1 h2
    rw [after_drop hr h1 h2 (by omega)]
    have hdl : (l.drop i).length = n - i := by rw [List.length_drop, hll]
    have e1 : minI (maxI most 0) (((n : Int).toNat - (i : Int).toNat : Nat) : Int) = (told most (n - i) : Int) := by
      unfold minI maxI told
      simp only [Int.toNat_natCast]
      split <;> split <;> omega
    rw [e1, hdl]
    have ht : told most (n - i) ≤ n - i := Nat.min_le_right _ _
    refine ⟨⟨by omega, by omega, by omega⟩, fun k1 hk1 => ⟨⟨by omega, by omega, by omega⟩, ?_⟩⟩
    simp only [Int.toNat_natCast, Int.toNat_zero, Nat.sub_zero, slA_zero]
    have hs1 := Sub.upd (.cells #[] 9 (0, 0)) hk1
    refine append_rd tStr (E := sE) (l := []) sLen (Owns.empty H k1 _ 1) (((hl.drop hi hc).take ht).mono hs1) sOne (by simp [maxLen]; omega) (by omega) ?_
    intro b2 c2 H2 g2 hf2 hfr2
    rw [Nat.zero_add] at g2 ⊢
    rw [List.nil_append] at g2
    refine ⟨b2, _, c2, rfl, b2, c2, ?_, g2.rd (E := sE) (sz := 1) (by omega) sLen, hf2.sub hs1 (off_at0 hk1)⟩
    congr 3
    have : ((told most (n - i) : Int) == ((n - i : Nat) : Int)) = decide (told most (n - i) = n - i) := by
      by_cases e : told most (n - i) = n - i
      · simp [e]
      · have : ¬ (told most (n - i) : Int) = ((n - i : Nat) : Int) := by omega
        simp [e, this]
    rw [this]
  refine after.vc oa n c s most H _ ⟨fun t H' => match t with | [.int _ i] => 0 ≤ i ∧ i ≤ n ∧ H' = H ∧ ∀ (j : Nat) x, (j : Int) < i → l[j]? = some x → lessS s x = false | _ => False, fun t _ => match t with | [.int _ i] => (n - i).toNat | _ => 0, ⟨by omega, by omega, rfl, fun j x hj => by omega⟩, ?_⟩
  rintro i H1 ⟨i0, i1, rfl, hall⟩
  obtain ⟨i, rfl⟩ : ∃ j : Nat, i = j := ⟨i.toNat, by omega⟩
  refine ⟨fun hi => ?_, fun hi => ?_⟩
  · have hi' : i < n := by simpa using hi
    obtain ⟨x, hx, hxr⟩ := hl.ex (i := (i : Int)) (by omega) (by omega)
    rw [Int.toNat_natCast] at hx
    refine ⟨hl.ob (by omega) (by omega), x, hxr, (less_ok s x).use ⟨_, rfl, fun hb => ?_, fun hb => ?_⟩⟩
    · rw [wrapS (by omega) (by omega)]
      refine ⟨⟨by omega, by omega, rfl, fun j y hj hy => ?_⟩, ⟨by simp only; omega⟩⟩
      by_cases e : j = i
      · subst e
        rw [hx] at hy
        cases hy
        simpa using hb
      · exact hall j y (by omega) hy
    · exact fin i (by omega) (fun j y hj hy => hall j y (by omega) hy) (fun y hy => by rw [hx] at hy; cases hy; simpa using hb)
  · have hi' : ¬ i < n := by simpa using hi
    exact fin i (by omega) (fun j y hj hy => hall j y (by omega) hy) (fun y hy => by have := (List.getElem?_eq_some_iff.1 hy).1; omega)
end Go.Lab
