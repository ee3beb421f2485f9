/- The contracts of the document's texts, of the texts behind one; what LabelNames and LabelMerges tell: true. -/
import Derived.Test.YtnecdiohiojfpaaLabB
namespace Go.Lab
open Go.Vx Go.Vc Go.Proofs Go.Txt

theorem refMerge_ok {H : PHeap} {oa : Option Addr} {n c : Nat} {ps : List TT} (h : RdT H oa n ps) (hn : n ≤ 1000) (hps : ∀ p ∈ ps, p.n ≤ 1000) (hall : (allT ps).length ≤ 999) (hS : ∀ x ∈ allT ps, x.size ≤ 1000000) :
    Triple Try.prog 14 #[.slice oa n c] H fun v H' => ∃ b m k, v = .slice b m k ∧ RdL H' sE 1 b m (mergeL (allT ps)) ∧ m ≤ k ∧ Sub H H' := by
  have hl := h.top.len
  have pre : ∀ i, (allT (ps.take i)).length ≤ (allT ps).length := fun i => by
    have e : allT ps = allT (ps.take i) ++ allT (ps.drop i) := by unfold allT; rw [← List.flatMap_append, List.take_append_drop]
    rw [e, List.length_append]; omega
  refine refMerge.vc oa n c H _ ⟨fun t H' => match t with | [.slice b m k, .int _ i] => 0 ≤ i ∧ i ≤ n ∧ m ≤ k ∧ Sub H H' ∧ RdL H' sE 1 b m (mergeL (allT (ps.take i.toNat))) | _ => False, fun t _ => match t with | [_, .int _ i] => (n - i).toNat | _ => 0, ⟨by omega, by omega, Nat.le_refl _, Sub.refl _, RdL.nil _ _ _⟩, ?_⟩
  rintro b m k i H1 ⟨i0, i1, hmk, hs1, hrd⟩
  obtain ⟨i, rfl⟩ : ∃ j : Nat, i = j := ⟨i.toNat, by omega⟩
  rw [Int.toNat_natCast] at hrd
  refine ⟨fun hi => ?_, fun hi => ?_⟩
  · have hi' : i < n := by simpa using hi
    obtain ⟨p, hp⟩ : ∃ p, ps[i]? = some p := ⟨_, List.getElem?_eq_getElem (by omega)⟩
    have hpm := List.mem_of_getElem? hp
    have hpl := (h.each p hpm).len
    have hpn := hps p hpm
    have htop : ∀ {G : PHeap}, Sub H G → Reads G (elemA oa (i : Int) 1) [.slice p.oa p.n p.c] := fun hs => (h.mono hs).top.at (by omega) (by simpa using hp)
    have hob : ∀ {G : PHeap}, Sub H G → Ob (oa ≠ none ∧ 0 ≤ (i : Int) ∧ (i : Int) < n) := fun hs => (h.mono hs).top.ob (by omega) (by omega)
    refine ⟨fun t H' => match t with | [.slice b m k, .int _ j] => 0 ≤ j ∧ j ≤ p.n ∧ m ≤ k ∧ Sub H H' ∧ RdL H' sE 1 b m (mergeL (allT (ps.take i) ++ p.l.take j.toNat)) | _ => False, fun t _ => match t with | [_, .int _ j] => (p.n - j).toNat | _ => 0, ⟨by omega, by omega, hmk, hs1, by simpa using hrd⟩, ?_⟩
    rintro b2 m2 k2 j H2 ⟨j0, j1, hmk2, hs2, hrd2⟩
    obtain ⟨j, rfl⟩ : ∃ q : Nat, j = q := ⟨j.toNat, by omega⟩
    rw [Int.toNat_natCast] at hrd2
    have h2 := (h.each p hpm).mono hs2
    refine ⟨hob hs2, p.oa, p.n, p.c, htop hs2, fun hj => ?_, fun hj => ?_⟩
    · have hj' : j < p.n := by simpa using hj
      obtain ⟨x, hx, hxr⟩ := h2.ex (i := (j : Int)) (by omega) (by omega)
      rw [Int.toNat_natCast] at hx
      have hm2 := hrd2.len
      have hsub : ∀ t ∈ allT (ps.take i) ++ p.l.take j, t ∈ allT ps := fun t ht => by
        rcases List.mem_append.1 ht with ht | ht
        · obtain ⟨q, hq, hq2⟩ := List.mem_flatMap.1 ht
          exact List.mem_flatMap.2 ⟨q, List.mem_of_mem_take hq, hq2⟩
        · exact List.mem_flatMap.2 ⟨p, hpm, List.mem_of_mem_take ht⟩
      have hlen : (mergeL (allT (ps.take i) ++ p.l.take j)).length ≤ 999 := by
        have h1 := foldl_len (allT (ps.take i) ++ p.l.take j) []
        have h3 := allT_take hp
        have h4 := pre (i + 1)
        rw [List.length_append, List.length_take] at h1
        unfold mergeL
        simp only [List.length_nil] at h1
        omega
      refine ⟨hob hs2, p.oa, p.n, p.c, htop hs2, h2.ob (by omega) (by omega), x, hxr, (add_ok hrd2 hmk2 (by omega) fun t ht => hS t (hsub t ((mergeL_rising _).2 t |>.1 ht))).mono ?_⟩
      rintro _ H3 ⟨b3, m3, k3, rfl, g1, g2, g3⟩
      rw [wrapS (by omega) (by omega)]
      refine ⟨b3, m3, k3, rfl, ⟨by omega, by omega, g2, hs2.trans g3, ?_⟩, ⟨by simp only; omega⟩⟩
      rw [show ((j : Int) + 1).toNat = j + 1 by omega, List.take_add_one, hx]
      have : mergeL (allT (ps.take i) ++ (p.l.take j ++ [x])) = addL (mergeL (allT (ps.take i) ++ p.l.take j)) x := by
        unfold mergeL
        rw [← List.append_assoc, List.foldl_append]
        rfl
      show RdL H3 sE 1 b3 m3 (mergeL (allT (ps.take i) ++ (p.l.take j ++ [x])))
      rw [this]; exact g1
    · have hj' : ¬ j < p.n := by simpa using hj
      rw [wrapS (by omega) (by omega)]
      refine ⟨⟨by omega, by omega, hmk2, hs2, ?_⟩, ⟨by simp only; omega⟩⟩
      rw [show ((i : Int) + 1).toNat = i + 1 by omega]
      rw [List.take_of_length_le (l := p.l) (by omega)] at hrd2
      have : allT (ps.take (i + 1)) = allT (ps.take i) ++ p.l := by
        unfold allT
        rw [List.take_add_one, hp, List.flatMap_append]
        simp
      rw [this]; exact hrd2
  · have hi' : ¬ i < n := by simpa using hi
    rw [List.take_of_length_le (by omega)] at hrd
    exact ⟨b, m, k, rfl, hrd, hmk, hs1⟩

/-! ### Behind a text -/
/-- How many are told, of r. -/
def told (most : Int) (r : Nat) : Nat := min most.toNat r
theorem after_ok {H : PHeap} {oa : Option Addr} {n c : Nat} {l : List ByteArray} {s : ByteArray} {most : Int} (hl : RdL H sE 1 oa n l) (hc : n ≤ c) (hn : n ≤ 1000) (hr : Rising l) :
    Triple Try.prog 15 #[.slice oa n c, .string s, .int .i64 most] H fun v H' => ∃ b k, v = .tuple #[.slice b (told most (l.filter fun x => lessS s x).length) k, .bool (decide (told most (l.filter fun x => lessS s x).length = (l.filter fun x => lessS s x).length))] ∧
      RdL H' sE 1 b (told most (l.filter fun x => lessS s x).length) ((l.filter fun x => lessS s x).take (told most (l.filter fun x => lessS s x).length)) ∧ Sub H H' := by
  have hll := hl.len
  have fin : ∀ (i : Nat), i ≤ n → (∀ j x, j < i → l[j]? = some x → lessS s x = false) → (∀ x, l[i]? = some x → lessS s x = true) →
      Ob (0 ≤ (i : Int) ∧ (i : Int) ≤ (n : Int) ∧ (n : Int) ≤ (c : Int)) ∧ ∀ k14 : Nat, H k14 = none →
        Ob ((0 : Int) ≤ 0 ∧ 0 ≤ minI (maxI most 0) (((n : Int).toNat - (i : Int).toNat : Nat) : Int) ∧ minI (maxI most 0) (((n : Int).toNat - (i : Int).toNat : Nat) : Int) ≤ ((c - (i : Int).toNat : Nat) : Int)) ∧
        EvV Try.prog (Builtin.append_ #[25, 25] 25 #[.slice (at0 k14) 0 0, .slice (slA (slA oa i c 1) 0 (c - (i : Int).toNat) 1) ((minI (maxI most 0) (((n : Int).toNat - (i : Int).toNat : Nat) : Int)).toNat - Int.toNat 0) (c - (i : Int).toNat - Int.toNat 0)]) (H.upd k14 (.cells #[] 9)) fun v15 H16 =>
          ∃ a17 k18 k19, v15 = Value.slice a17 k18 k19 ∧ ∃ b k, Value.tuple #[.slice a17 k18 k19, .bool (minI (maxI most 0) (((n : Int).toNat - (i : Int).toNat : Nat) : Int) == (((n : Int).toNat - (i : Int).toNat : Nat) : Int))] = .tuple #[.slice b (told most (l.filter fun x => lessS s x).length) k, .bool (decide (told most (l.filter fun x => lessS s x).length = (l.filter fun x => lessS s x).length))] ∧
            RdL H16 sE 1 b (told most (l.filter fun x => lessS s x).length) ((l.filter fun x => lessS s x).take (told most (l.filter fun x => lessS s x).length)) ∧ Sub H H16 := by
    intro i hi h1 h2
    rw [after_drop hr h1 h2 (by omega)]
    have hdl : (l.drop i).length = n - i := by rw [List.length_drop, hll]
    have e1 : minI (maxI most 0) (((n : Int).toNat - (i : Int).toNat : Nat) : Int) = (told most (n - i) : Int) := by
      unfold minI maxI told
      simp only [Int.toNat_natCast]
      split <;> split <;> omega
    rw [e1, hdl]
    have ht : told most (n - i) ≤ n - i := Nat.min_le_right _ _
    refine ⟨⟨by omega, by omega, by omega⟩, fun k1 hk1 => ⟨⟨by omega, by omega, by omega⟩, ?_⟩⟩
    simp only [Int.toNat_natCast, Int.toNat_zero, Nat.sub_zero, slA_zero]
    have hs1 := Sub.upd (.cells #[] 9 (0, 0)) hk1
    refine append_rd tStr (E := sE) (l := []) sLen (Owns.empty H k1 _ 1) (((hl.drop hi hc).take ht).mono hs1) sOne (by simp [maxLen]; omega) (by omega) ?_
    intro b2 c2 H2 g2 hf2 hfr2
    rw [Nat.zero_add] at g2 ⊢
    rw [List.nil_append] at g2
    refine ⟨b2, _, c2, rfl, b2, c2, ?_, g2.rd (E := sE) (sz := 1) (by omega) sLen, hf2.sub hs1 (off_at0 hk1)⟩
    congr 3
    have : ((told most (n - i) : Int) == ((n - i : Nat) : Int)) = decide (told most (n - i) = n - i) := by
      by_cases e : told most (n - i) = n - i
      · simp [e]
      · have : ¬ (told most (n - i) : Int) = ((n - i : Nat) : Int) := by omega
        simp [e, this]
    rw [this]
  refine after.vc oa n c s most H _ ⟨fun t H' => match t with | [.int _ i] => 0 ≤ i ∧ i ≤ n ∧ H' = H ∧ ∀ (j : Nat) x, (j : Int) < i → l[j]? = some x → lessS s x = false | _ => False, fun t _ => match t with | [.int _ i] => (n - i).toNat | _ => 0, ⟨by omega, by omega, rfl, fun j x hj => by omega⟩, ?_⟩
  rintro i H1 ⟨i0, i1, rfl, hall⟩
  obtain ⟨i, rfl⟩ : ∃ j : Nat, i = j := ⟨i.toNat, by omega⟩
  refine ⟨fun hi => ?_, fun hi => ?_⟩
  · have hi' : i < n := by simpa using hi
    obtain ⟨x, hx, hxr⟩ := hl.ex (i := (i : Int)) (by omega) (by omega)
    rw [Int.toNat_natCast] at hx
    refine ⟨hl.ob (by omega) (by omega), x, hxr, (less_ok s x).use ⟨_, rfl, fun hb => ?_, fun hb => ?_⟩⟩
    · rw [wrapS (by omega) (by omega)]
      refine ⟨⟨by omega, by omega, rfl, fun j y hj hy => ?_⟩, ⟨by simp only; omega⟩⟩
      by_cases e : j = i
      · subst e
        rw [hx] at hy
        cases hy
        simpa using hb
      · exact hall j y (by omega) hy
    · exact fin i (by omega) (fun j y hj hy => hall j y (by omega) hy) (fun y hy => by rw [hx] at hy; cases hy; simpa using hb)
  · have hi' : ¬ i < n := by simpa using hi
    exact fin i (by omega) (fun j y hj hy => hall j y (by omega) hy) (fun y hy => by have := (List.getElem?_eq_some_iff.1 hy).1; omega)
theorem refAfter_ok {H : PHeap} {oa : Option Addr} {n c : Nat} {l : List ByteArray} {s : ByteArray} {most : Int} (hl : RdL H sE 1 oa n l) (hn : n ≤ 1000) (hS : s.size ≤ 1000000) :
    Triple Try.prog 16 #[.slice oa n c, .string s, .int .i64 most] H fun v H' => ∃ b k, v = .tuple #[.slice b (told most (l.filter fun x => lessS s x).length) k, .bool (decide (told most (l.filter fun x => lessS s x).length = (l.filter fun x => lessS s x).length))] ∧
      RdL H' sE 1 b (told most (l.filter fun x => lessS s x).length) ((l.filter fun x => lessS s x).take (told most (l.filter fun x => lessS s x).length)) ∧ Sub H H' := by
  have hll := hl.len
  refine refAfter.vc oa n c s most H _ ⟨fun t H' => match t with | [.slice b m k, .int _ i] => 0 ≤ i ∧ i ≤ n ∧ m ≤ i ∧ Sub H H' ∧ Off H b ∧ OwnL H' 9 sE 1 b m k ((l.take i.toNat).filter fun x => lessS s x) | _ => False, fun t _ => match t with | [_, .int _ i] => (n - i).toNat | _ => 0, ⟨by omega, by omega, by omega, Sub.refl _, Off.none _, Owns.nil _ _ 1⟩, ?_⟩
  rintro b m k i H1 ⟨i0, i1, hm, hs1, hoff, how⟩
  obtain ⟨i, rfl⟩ : ∃ j : Nat, i = j := ⟨i.toNat, by omega⟩
  rw [Int.toNat_natCast] at how
  have hl1 := hl.mono hs1
  refine ⟨fun hi => ?_, fun hi => ?_⟩
  · have hi' : i < n := by simpa using hi
    obtain ⟨x, hx, hxr⟩ := hl1.ex (i := (i : Int)) (by omega) (by omega)
    rw [Int.toNat_natCast] at hx
    have htk : (l.take (i + 1)).filter (fun x => lessS s x) = (l.take i).filter (fun x => lessS s x) ++ (if lessS s x then [x] else []) := by
      rw [List.take_add_one, hx, List.filter_append]
      congr 1
      cases hb : lessS s x <;> simp [hb]
    refine ⟨hl1.ob (by omega) (by omega), x, hxr, (refLessS_ok hS).use ⟨_, rfl, fun hb => ⟨hl1.ob (by omega) (by omega), x, hxr, fun k3 hk3 => ?_⟩, fun hb => ?_⟩⟩
    · refine append_one tStr hk3 (E := sE) (x := x) sLen how rfl (sOne x) (by simp [maxLen]; omega) (by omega) ?_
      intro b2 q2 H7 g7 hf7 hfr7 _
      rw [wrapS (by omega) (by omega)]
      refine ⟨b2, m + 1, q2, rfl, ⟨by omega, by omega, by omega, hf7.sub hs1 hoff, hfr7.off hs1 hoff, ?_⟩, ⟨by simp only; omega⟩⟩
      rw [show ((i : Int) + 1).toNat = i + 1 by omega, htk, if_pos hb]
      exact g7
    · rw [wrapS (by omega) (by omega)]
      refine ⟨⟨by omega, by omega, by omega, hs1, hoff, ?_⟩, ⟨by simp only; omega⟩⟩
      rw [show ((i : Int) + 1).toNat = i + 1 by omega, htk, if_neg (by rw [hb]; simp), List.append_nil]
      exact how
  · have hi' : ¬ i < n := by simpa using hi
    rw [List.take_of_length_le (by omega)] at how
    have hrd := how.rd (E := sE) (sz := 1) (by omega) sLen
    have hrl := hrd.len
    have hle := how.le
    generalize (l.filter fun x => lessS s x) = R at *
    have em : (bif decide (most < 0) then 0 else most) = (most.toNat : Int) := by
      rw [Bool.cond_eq_ite]
      by_cases h : most < 0
      · simp [h]; omega
      · simp [h]; omega
    rw [em]
    refine ⟨fun hlt => ⟨⟨by omega, by omega, by simp at hlt; omega⟩, ?_⟩, fun hlt => ?_⟩
    · have hlt' : most.toNat < m := by simp at hlt; omega
      have et : told most R.length = most.toNat := by unfold told; omega
      have hne : ¬ most.toNat = R.length := by omega
      simp only [Int.toNat_natCast, Int.toNat_zero, Nat.sub_zero, slA_zero, et, hne, decide_false]
      exact ⟨b, k, rfl, hrd.take (by omega), hs1⟩
    · have hlt' : ¬ most.toNat < m := by simp at hlt; omega
      have et : told most R.length = m := by unfold told; omega
      have he : m = R.length := by omega
      rw [et]
      refine ⟨b, k, by rw [← he]; simp, ?_, hs1⟩
      rw [List.take_of_length_le (by omega)]
      exact hrd

/-! ### The laws -/
theorem alive_ok (H : PHeap) : Triple Try.prog 6 #[] H fun v H' => v = .bool true ∧ Sub H H' := by
  refine aliveL.vc H _ ((less_ok _ _).use ⟨_, rfl, fun _ => (right_ok _).mono ?_, fun e => ?_⟩)
  · rintro _ H ⟨b, rfl, rfl, hb⟩
    have hb' : b = false := by
      cases b with
      | false => rfl
      | true => exact absurd (hb.1 rfl).2.2.1 (by simp only [ne_eq, Decidable.not_not]; kernel_rfl)
    subst hb'
    refine ⟨false, rfl, fun _ => (right_ok _).mono ?_, fun e => by simp at e⟩
    rintro _ H ⟨b, rfl, rfl, hb⟩
    have e0 : byteAt ⟨#[97, 45, 49]⟩ 0 = 97 := by kernel_rfl
    have e1 : byteAt ⟨#[97, 45, 49]⟩ 1 = 45 := by kernel_rfl
    have e2 : byteAt ⟨#[97, 45, 49]⟩ 2 = 49 := by kernel_rfl
    have es : (⟨#[97, 45, 49]⟩ : ByteArray).size = 3 := by kernel_rfl
    have hb' : b = true := hb.2 ⟨by omega, by omega, by omega, fun i hi => by
      rw [es] at hi
      match i, hi with
      | 0, _ => show signP (byteAt _ 0); rw [e0]; unfold signP; omega
      | 1, _ => show signP (byteAt _ 1); rw [e1]; unfold signP; omega
      | 2, _ => show signP (byteAt _ 2); rw [e2]; unfold signP; omega⟩
    subst hb'
    refine ⟨true, rfl, fun _ k10 h10 k11 h11 k12 h12 => ?_, fun e => by simp at e⟩
    have c10 := ((Bx.new H k10 9 (([⟨#[98]⟩] : List ByteArray).flatMap sE)).upd (.cells #[.string ⟨#[97]⟩, .string ⟨#[98]⟩] 9) h11).upd (.cells #[.slice (at0 k10) 1 1, .slice (at0 k11) 2 2] 25) h12
    have c11 := (Bx.new (H.upd k10 (.cells #[.string ⟨#[98]⟩] 9)) k11 9 (([⟨#[97]⟩, ⟨#[98]⟩] : List ByteArray).flatMap sE)).upd (.cells #[.slice (at0 k10) 1 1, .slice (at0 k11) 2 2] 25) h12
    have c12 := Bx.new ((H.upd k10 (.cells #[.string ⟨#[98]⟩] 9)).upd k11 (.cells #[.string ⟨#[97]⟩, .string ⟨#[98]⟩] 9)) k12 25 (([⟨at0 k10, 1, 1, [⟨#[98]⟩]⟩, ⟨at0 k11, 2, 2, [⟨#[97]⟩, ⟨#[98]⟩]⟩] : List TT).flatMap Sl.E)
    have s3 := ((Sub.upd (.cells #[.string ⟨#[98]⟩] 9) h10).trans (Sub.upd (.cells #[.string ⟨#[97]⟩, .string ⟨#[98]⟩] 9) h11)).trans (Sub.upd (.cells #[.slice (at0 k10) 1 1, .slice (at0 k11) 2 2] 25) h12)
    have hT : RdT _ (at0 k12) 2 [⟨at0 k10, 1, 1, [⟨#[98]⟩]⟩, ⟨at0 k11, 2, 2, [⟨#[97]⟩, ⟨#[98]⟩]⟩] := ⟨Bx.rd (E := Sl.E) (fun _ => rfl) c12, fun p hp => by
      simp only [List.mem_cons, List.not_mem_nil, or_false] at hp
      rcases hp with rfl | rfl
      · exact Bx.rd sLen c10
      · exact Bx.rd sLen c11⟩
    refine (merge_ok (c := 2) hT (by omega) (fun p hp => by
      simp only [List.mem_cons, List.not_mem_nil, or_false] at hp
      rcases hp with rfl | rfl
      · simp
      · simp) (by simp [allT])).mono ?_
    rintro _ H2 ⟨b, m, k, R, rfl, g1, g2, g3, g4, g5⟩
    have hR : R = [⟨#[97]⟩, ⟨#[98]⟩] := by
      refine rising_ext g3 ?_ fun x => ?_
      · refine List.pairwise_cons.2 ⟨fun y hy => ?_, by simp⟩
        simp at hy
        subst hy
        kernel_rfl
      · rw [g4]
        simp only [allT, List.flatMap_cons, List.flatMap_nil, List.append_nil, List.mem_append, List.mem_cons, List.not_mem_nil, or_false]
        constructor
        · rintro (h | h | h)
          · exact .inr h
          · exact .inl h
          · exact .inr h
        · rintro (h | h)
          · exact .inr (.inl h)
          · exact .inl h
    subst hR
    have hm : m = 2 := g1.len.symm
    subst hm
    refine ⟨b, 2, k, rfl, fun k18 h18 => ?_⟩
    have c18 := Bx.new H2 k18 9 (([⟨#[97]⟩, ⟨#[98]⟩] : List ByteArray).flatMap sE)
    refine (same_ok (g1.mono (Sub.upd _ h18)) (Bx.rd sLen c18) (by omega)).mono ?_
    rintro _ _ ⟨rfl, rfl⟩
    exact ⟨true, rfl, rfl, s3.trans (g5.trans (Sub.upd _ h18))⟩
  · have : lessS ⟨#[97]⟩ ⟨#[97, 45]⟩ = true := by kernel_rfl
    rw [this] at e; simp at e
theorem names_ok (H : PHeap) (s t : ByteArray) : Triple Try.prog 3 #[.string s, .string t] H fun v H' => v = .bool true ∧ Sub H H' := by
  have alive : ∀ {H1 : PHeap}, Sub H H1 → Triple Try.prog 6 #[] H1 fun v H' => ∃ b, v = Value.bool b ∧ Value.bool b = Value.bool true ∧ Sub H H' := fun hs => (alive_ok _).mono fun v H' ⟨h1, h2⟩ => ⟨true, h1, rfl, hs.trans h2⟩
  refine lawNames.vc s t H _ ⟨fun _ => alive (Sub.refl _), fun hsz => ?_⟩
  have hsz' : s.size ≤ 60 ∧ t.size ≤ 60 := by
    simp only [Bool.cond_eq_ite] at hsz
    grind
  refine (right_ok s).mono ?_
  rintro _ H ⟨b, rfl, rfl, hb⟩
  refine ⟨b, rfl, (refRight_ok s).mono ?_⟩
  rintro _ H ⟨b2, rfl, rfl, hb2⟩
  have hbb : b = b2 := by
    cases b <;> cases b2 <;> simp_all
  subst hbb
  refine ⟨b, rfl, fun _ => (less_ok s t).use ⟨_, rfl, (refLessS_ok (by omega)).use ⟨_, rfl, fun _ => (less_ok s t).use ⟨_, rfl, fun hl => (less_ok t s).use ⟨_, rfl, fun _ => alive (Sub.refl _), fun e => ?_⟩, fun _ => alive (Sub.refl _)⟩, fun e => by simp at e⟩⟩, fun e => by simp at e⟩
  have h1 : lessS s t = true := by simpa using hl
  rw [lessS_asymm h1] at e
  simp at e
theorem merges_ok {H : PHeap} {oa ob : Option Addr} {n m c d : Nat} {l r : List ByteArray} {at_ : Int} (h1 : RdL H sE 1 oa n l) (h2 : RdL H sE 1 ob m r) :
    Triple Try.prog 4 #[.slice oa n c, .slice ob m d, .int .i64 at_] H fun v H' => v = .bool true ∧ Sub H H' := by
  have alive : ∀ {H1 : PHeap}, Sub H H1 → Triple Try.prog 6 #[] H1 fun v H' => ∃ b, v = Value.bool b ∧ Value.bool b = Value.bool true ∧ Sub H H' := fun hs => (alive_ok _).mono fun v H' ⟨h1, h2⟩ => ⟨true, h1, rfl, hs.trans h2⟩
  refine lawMerges.vc oa n c ob m d at_ H _ ((far_ok h1).mono ?_)
  rintro _ H ⟨f1, rfl, rfl, hf1⟩
  refine ⟨f1, rfl, fun e1 => (far_ok h2).mono ?_, fun _ => alive (Sub.refl _)⟩
  rintro _ H ⟨f2, rfl, rfl, hf2⟩
  refine ⟨f2, rfl, fun _ => alive (Sub.refl _), fun e2 k1 hk1 => ?_⟩
  obtain ⟨n60, hs1⟩ := hf1 e1
  obtain ⟨m60, hs2⟩ := hf2 e2
  have hl := h1.len
  have hr := h2.len
  have hT : ∀ {G : PHeap} {k : Nat}, Sub H G → (hk : G k = none) → RdT (G.upd k (.cells #[.slice oa n c, .slice ob m d] 25)) (at0 k) 2 [⟨oa, n, c, l⟩, ⟨ob, m, d, r⟩] := fun {G k} hs hk =>
    ⟨Bx.rd (E := Sl.E) (fun _ => rfl) (Bx.new G k 25 (([⟨oa, n, c, l⟩, ⟨ob, m, d, r⟩] : List TT).flatMap Sl.E)), fun p hp => by
      simp only [List.mem_cons, List.not_mem_nil, or_false] at hp
      rcases hp with rfl | rfl
      · exact h1.mono (hs.trans (Sub.upd _ hk))
      · exact h2.mono (hs.trans (Sub.upd _ hk))⟩
  have hpn : ∀ p ∈ ([⟨oa, n, c, l⟩, ⟨ob, m, d, r⟩] : List TT), p.n ≤ 1000 := fun p hp => by
    simp only [List.mem_cons, List.not_mem_nil, or_false] at hp
    rcases hp with rfl | rfl
    · simp only; omega
    · simp only; omega
  have hal : allT [⟨oa, n, c, l⟩, ⟨ob, m, d, r⟩] = l ++ r := by simp [allT]
  have hS : ∀ x ∈ allT [⟨oa, n, c, l⟩, ⟨ob, m, d, r⟩], x.size ≤ 1000000 := fun x hx => by
    rw [hal] at hx
    rcases List.mem_append.1 hx with hx | hx
    · have := hs1 x hx; omega
    · have := hs2 x hx; omega
  have hln : (allT [⟨oa, n, c, l⟩, ⟨ob, m, d, r⟩]).length ≤ 120 := by rw [hal, List.length_append]; omega
  refine (merge_ok (c := 2) (hT (Sub.refl _) hk1) (by omega) hpn (by omega)).mono ?_
  rintro _ H1 ⟨b1, m1, q1, R, rfl, g1, g2, g3, g4, g5⟩
  have s1 : Sub H H1 := (Sub.upd _ hk1).trans g5
  refine ⟨b1, m1, q1, rfl, fun k2 hk2 => (refMerge_ok (c := 2) (hT s1 hk2) (by omega) hpn (by omega) hS).mono ?_⟩
  rintro _ H2 ⟨b2, m2, q2, rfl, j1, j2, j3⟩
  obtain ⟨mr1, mr2⟩ := mergeL_rising (allT [⟨oa, n, c, l⟩, ⟨ob, m, d, r⟩])
  have hRe : R = mergeL (allT [⟨oa, n, c, l⟩, ⟨ob, m, d, r⟩]) := rising_ext g3 mr1 fun x => (g4 x).trans (mr2 x).symm
  have hRl : R.length ≤ 120 := by
    rw [hRe]
    have := foldl_len (allT [⟨oa, n, c, l⟩, ⟨ob, m, d, r⟩]) []
    simp only [List.length_nil] at this
    unfold mergeL
    omega
  rw [← hRe] at j1
  have s2 : Sub H1 H2 := (Sub.upd _ hk2).trans j3
  have g12 := g1.mono s2
  have hm1 := g12.len
  have hm : m2 = m1 := by rw [← j1.len, hm1]
  subst hm
  refine ⟨b2, _, q2, rfl, (same_ok g12 j1 (by omega)).mono ?_⟩
  rintro _ H2 ⟨rfl, rfl⟩
  have tail : ∀ s : ByteArray, s.size ≤ 1000000 → Triple Try.prog 15 #[.slice b1 m2 q1, .string s, .int .i64 at_] H2 fun v33 H34 => ∃ a35 k36 k37 b38, v33 = Value.tuple #[.slice a35 k36 k37, .bool b38] ∧
      Triple Try.prog 16 #[.slice b1 m2 q1, .string s, .int .i64 at_] H34 fun v39 H40 => ∃ a41 k42 k43 b44, v39 = Value.tuple #[.slice a41 k42 k43, .bool b44] ∧
        Triple Try.prog 13 #[.slice a35 k36 k37, .slice a41 k42 k43] H40 fun v45 H46 => ∃ b47, v45 = Value.bool b47 ∧
          (b47 = true → ((b38 == b44) = true → Triple Try.prog 6 #[] H46 fun v48 H49 => ∃ b50, v48 = Value.bool b50 ∧ Value.bool b50 = Value.bool true ∧ Sub H H49) ∧ ((b38 == b44) = !true → Value.bool false = Value.bool true ∧ Sub H H46)) ∧ (b47 = !true → Value.bool false = Value.bool true ∧ Sub H H46) := by
    intro s hsz
    refine (after_ok g12 g2 (by omega) g3).mono ?_
    rintro _ H3 ⟨b3, k3, rfl, a1, a2⟩
    refine ⟨b3, _, k3, _, rfl, (refAfter_ok (g12.mono a2) (by omega) hsz).mono ?_⟩
    rintro _ H4 ⟨b4, k4, rfl, a3, a4⟩
    refine ⟨b4, _, k4, _, rfl, (same_ok (a1.mono a4) a3 ?_).mono ?_⟩
    · have h5 : told at_ (R.filter fun x => lessS s x).length ≤ (R.filter fun x => lessS s x).length := Nat.min_le_right _ _
      have h6 := List.length_filter_le (fun x => lessS s x) R
      omega
    · rintro _ H4 ⟨rfl, rfl⟩
      exact ⟨true, rfl, fun _ => ⟨fun _ => alive (s1.trans (s2.trans (a2.trans a4))), fun e => by simp at e⟩, fun e => by simp at e⟩
  refine ⟨true, rfl, fun e => by simp at e, fun _ => ⟨fun hpos => ?_, fun _ => tail _ (by simp [ByteArray.size])⟩⟩
  have hpos' : 0 < n := by simp at hpos; omega
  have h1' := h1.mono (s1.trans s2)
  obtain ⟨x, hx, hxr⟩ := h1'.ex (i := 0) (by omega) (by omega)
  exact ⟨h1'.ob (by omega) (by omega), x, hxr, tail x (by have := hs1 x (List.mem_of_getElem? hx); omega)⟩
end Go.Lab
