/- The contracts of the package compact, and of its reference. -/
import Derived.Test.YtkmojhkmekijoabVxT
import Derived.Test.YtkmojhkmekijoabVcComp
import Derived.Test.YtkmojhkmekijoabCompP
namespace Go.Comp
open Go.Vx Go.Vc Go.Proofs

theorem vb {a b : Bool} (h : a = b) : Value.bool a = Value.bool b := by rw [h]
abbrev E2 : Rn → List Value := pairE (intE .i64) (intE .i64)
abbrev E3 : Int × Int × Int → List Value := pairE (intE .i64) (pairE (intE .i64) (intE .i64))
theorem tRuns : ElemT Try.prog 36 47 2 16 := .of (by kernel_rfl)
theorem tMoves : ElemT Try.prog 38 45 3 24 := .of (by kernel_rfl)
theorem oneE2 (x : Rn) : ∀ u ∈ E2 x, u.oneCell' = true := fun u hu => by simp [E2, pairE, intE] at hu; rcases hu with rfl | rfl <;> rfl
theorem oneE3 (x : Int × Int × Int) : ∀ u ∈ E3 x, u.oneCell' = true := fun u hu => by simp [E3, pairE, intE] at hu; rcases hu with rfl | rfl | rfl <;> rfl

theorem to_ok {H : PHeap} {oa : Option Addr} {n c : Nat} {l : List Rn} {k : Nat} (hl : RdL H E2 2 oa n l) (hk : k ≤ n) (hn : n ≤ 60) (hb : ∀ r ∈ l, 0 ≤ r.2 ∧ r.2 ≤ 256) :
    Triple Try.prog 17 #[.slice oa n c, .int .i64 k] H fun v H' => v = .int .i64 (sumN (l.take k)) ∧ H' = H := by
  refine refTo.vc oa n c k H _ ⟨fun l' H' => match l' with | [.int _ s, .int _ i] => 0 ≤ i ∧ i ≤ k ∧ s = sumN (l.take i.toNat) ∧ H' = H | _ => False, fun l' _ => match l' with | [_, .int _ i] => ((k : Int) - i).toNat | _ => 0,
    ⟨by omega, by omega, by simp [sumN], rfl⟩, ?_⟩
  rintro s i H1 ⟨i0, ik, rfl, rfl⟩
  refine ⟨fun h => ?_, fun h => ⟨?_, rfl⟩⟩
  · have hi : i < k := by simpa using h
    obtain ⟨r, hr, hrd⟩ := hl.ex i0 (show i < n by omega)
    have hs := sumN_bound hb i.toNat
    have hr2 := hb r (List.mem_of_getElem? hr)
    have e1 : IntKind.i64.wrap (sumN (l.take i.toNat) + r.2) = sumN (l.take i.toNat) + r.2 := wrap64 (by omega) (by omega)
    have e2 : IntKind.i64.wrap (i + 1) = i + 1 := wrap64 (by omega) (by omega)
    refine ⟨hl.ob i0 (by omega), ⟨hl.elem_ne i0 (by omega)⟩, r.2, hrd.fld 1 (fun j v hv => by cases j with | zero => simpa [E2, pairE, intE] using hv | succ j => simp at hv), ?_⟩
    rw [e1, e2]
    refine ⟨⟨by omega, by omega, ?_, rfl⟩, ⟨by simp only; omega⟩⟩
    rw [show (i + 1).toNat = i.toNat + 1 by omega, sumN_take_succ l _ r hr]
  · have : i = k := by simp at h; omega
    subst this
    simp
theorem apart_ok {H : PHeap} {oa : Option Addr} {n c : Nat} {l : List Rn} (hl : RdL H E2 2 oa n l) (hn : n ≤ 60) (h64 : ∀ r ∈ l, -9223372036854775808 ≤ r.1 ∧ r.1 ≤ 9223372036854775807 ∧ -9223372036854775808 ≤ r.2 ∧ r.2 ≤ 9223372036854775807) :
    Triple Try.prog 13 #[.slice oa n c] H fun v H' => v = .bool (apartF 0 l) ∧ H' = H := by
  refine apart.vc oa n c H _ ⟨fun l' H' => match l' with | [.int _ s, .int _ i] => 0 ≤ i ∧ i ≤ n ∧ 0 ≤ s ∧ s ≤ 256 ∧ apartF 0 l = apartF s (l.drop i.toNat) ∧ H' = H | _ => False, fun l' _ => match l' with | [_, .int _ i] => ((n : Int) - i).toNat | _ => 0,
    ⟨by omega, by omega, by omega, by omega, by simp, rfl⟩, ?_⟩
  rintro s i H1 ⟨i0, ik, s0, s1, he, rfl⟩
  refine ⟨fun h => ?_, fun h => ⟨vb ?_, rfl⟩⟩
  · have hi : i < n := by simpa using h
    obtain ⟨r, hr, hrd⟩ := hl.ex i0 hi
    have hrb := h64 r (List.mem_of_getElem? hr)
    have hdrop : l.drop i.toNat = r :: l.drop (i.toNat + 1) := (List.drop_eq_getElem?_toList_append ..).trans (by rw [hr]; rfl)
    have e2 : IntKind.i64.wrap (i + 1) = i + 1 := wrap64 (by omega) (by omega)
    rw [e2]
    refine ⟨hl.ob i0 hi, r.1, r.2, hrd, fun hc => ⟨vb ?_, rfl⟩, fun hc => ?_⟩
    · rw [he, hdrop, apartF, if_pos]
      by_cases q1 : r.1 < s
      · exact .inl q1
      by_cases q2 : r.2 < 1
      · exact .inr (.inl q2)
      by_cases q3 : r.1 ≥ 256
      · exact .inr (.inr (.inl q3))
      have e3 : IntKind.i64.wrap (256 - r.1) = 256 - r.1 := wrap64 (by omega) (by omega)
      rw [e3] at hc
      simp [q1, q2, q3] at hc
      omega
    · have q : ¬ (r.1 < s) ∧ ¬ (r.2 < 1) ∧ ¬ (r.1 ≥ 256) := by
        simp only [Bool.cond_eq_ite] at hc
        grind
      have e3 : IntKind.i64.wrap (256 - r.1) = 256 - r.1 := wrap64 (by omega) (by omega)
      have q4 : ¬ (r.2 > 256 - r.1) := by
        rw [e3] at hc
        simp [q.1, q.2.1, q.2.2] at hc
        omega
      have e1 : IntKind.i64.wrap (r.1 + r.2) = r.1 + r.2 := wrap64 (by omega) (by omega)
      rw [e1]
      refine ⟨⟨by omega, by omega, by omega, by omega, ?_, rfl⟩, ⟨by simp only; omega⟩⟩
      rw [he, hdrop, apartF, if_neg (by omega), show (i + 1).toNat = i.toNat + 1 by omega]
  · have : i = n := by simp at h; omega
    rw [he, List.drop_of_length_le (by have := hl.len; omega)]
    rfl

/-- Runs that are read. -/
theorem as_ok {H : PHeap} {oa : Option Addr} {n c : Nat} {l : List Rn} (hl : RdL H E2 2 oa n l) (hn : n ≤ 60) :
    Triple Try.prog 14 #[.slice oa n c] H fun v H' => ∃ b k, v = .slice b n k ∧ OwnL H' 47 E2 2 b n k l ∧ Sub H H' ∧ Off H b := by
  refine as_.vc oa n c H _ ⟨fun l' H' => match l' with | [.slice b m k, .int _ i] => 0 ≤ i ∧ i ≤ n ∧ (m : Int) = i ∧ OwnL H' 47 E2 2 b m k (l.take i.toNat) ∧ Sub H H' ∧ Off H b | _ => False,
    fun l' _ => match l' with | [_, .int _ i] => ((n : Int) - i).toNat | _ => 0, ⟨by omega, by omega, rfl, Owns.nil H _ 2, Sub.refl H, Off.none _⟩, ?_⟩
  rintro b m k i H1 ⟨i0, ik, rfl, how, hs, hoff⟩
  refine ⟨fun h => ?_, fun h => ?_⟩
  · have hi : (m : Int) < n := by simpa using h
    obtain ⟨r, hr, hrd⟩ := (hl.mono hs).ex (i := m) (by omega) hi
    simp only [Int.toNat_natCast] at hr how
    refine ⟨hl.ob (by omega) hi, r.1, r.2, hrd, fun kk hk => ?_⟩
    refine append_one tRuns hk (x := r) (fun _ => rfl) how rfl (oneE2 r) (by simp [maxLen]; omega) (by omega) ?_
    intro b' k' H' h1 h2 h3 _
    have e2 : IntKind.i64.wrap ((m : Int) + 1) = (m : Int) + 1 := wrap64 (by omega) (by omega)
    rw [e2]
    refine ⟨b', m + 1, k', rfl, ⟨by omega, by omega, by omega, ?_, h2.sub hs hoff, h3.off hs hoff⟩, ⟨by simp only; omega⟩⟩
    rw [show ((m : Int) + 1).toNat = m + 1 by omega, List.take_add_one, hr]
    exact h1
  · have : m = n := by simp at h; omega
    subst this
    refine ⟨b, k, rfl, ?_, hs, hoff⟩
    rw [Int.toNat_natCast, List.take_of_length_le (by have := hl.len; omega)] at how
    exact how

/-- The closure of 'packed'. -/
abbrev packV (k : Nat) : Value := .func (.func 24) #[] #[.pointer (at0 k)]
theorem packed_ok {H : PHeap} {oa : Option Addr} {n c : Nat} : Triple Try.prog 22 #[.slice oa n c] H fun v H' => ∃ k, H k = none ∧ v = packV k ∧ H' = H.upd k (.cells #[.slice oa n c] 36 (0, 0)) :=
  packed.vc oa n c H _ fun k hk => ⟨k, hk, rfl, rfl⟩
abbrev packE (x : Rn × Int) : List Value := [.agg (E2 x.1).toArray, .int .i64 x.2]
theorem packed_iter {H : PHeap} {oa : Option Addr} {n c k : Nat} {l : List Rn} (hb : Bx H k 36 [.slice oa n c]) (hl : RdL H E2 2 oa n l) (hn : n ≤ 60) (hr : ∀ r ∈ l, 0 ≤ r.2 ∧ r.2 ≤ 256) :
    IterOk Try.prog (packV k) H ((packL 0 l).map packE) := by
  refine ⟨fun y J X H0 h0 hsub hY => ⟨fun w hs => ⟨_, _, run_callFunc (by kernel_rfl), ?_⟩⟩⟩
  refine Triple.out (packed1.vc y (at0 k) H0 (fun v H' => J ((packL 0 l).map packE).length H' ∨ X H') ⟨oa, n, c, (hb.sub (hsub 0 H0 h0)).reads, fun l' H' => match l' with | [.int _ t, .int _ i] => 0 ≤ i ∧ i ≤ n ∧ t = sumN (l.take i.toNat) ∧ J i.toNat H' | _ => False,
    fun l' _ => match l' with | [_, .int _ i] => ((n : Int) - i).toNat | _ => 0, ⟨by omega, by omega, by simp [sumN], h0⟩, ?_⟩) w hs
  rintro t i H1 ⟨i0, ik, rfl, hJ⟩
  refine ⟨fun h => ?_, fun h => .inl ?_⟩
  · have hi : i < n := by simpa using h
    have hs1 := hsub _ _ hJ
    obtain ⟨r, hrr, hrd⟩ := (hl.mono hs1).ex i0 hi
    have hg := packL_get l 0 i.toNat r hrr
    rw [Int.zero_add] at hg
    have hy := hY i.toNat (packE (r, sumN (l.take i.toNat))) H1 (by rw [List.getElem?_map, hg]; rfl) hJ
    refine ⟨hl.ob i0 hi, r.1, r.2, hrd, ⟨fun w hw => ?_⟩⟩
    have hsb := sumN_bound hr i.toNat
    have hr2 := hr r (List.mem_of_getElem? hrr)
    have e1 : IntKind.i64.wrap (sumN (l.take i.toNat) + r.2) = sumN (l.take i.toNat) + r.2 := wrap64 (by omega) (by omega)
    have e2 : IntKind.i64.wrap (i + 1) = i + 1 := wrap64 (by omega) (by omega)
    rw [e1, e2]
    have key : ∀ v H'', ((v = .bool true ∧ J (i.toNat + 1) H'') ∨ (v = .bool false ∧ X H'')) → ∃ b15, v = Value.bool b15 ∧ ((!b15) = true → J ((packL 0 l).map packE).length H'' ∨ X H'') ∧
        ((!b15) = false → (0 ≤ i + 1 ∧ i + 1 ≤ n ∧ sumN (l.take i.toNat) + r.2 = sumN (l.take (i + 1).toNat) ∧ J (i + 1).toNat H'') ∧ Less (((n : Int) - (i + 1)).toNat) (((n : Int) - i).toNat)) := by
      rintro v H'' (⟨rfl, h1⟩ | ⟨rfl, h1⟩)
      · refine ⟨true, rfl, fun h => by simp at h, fun _ => ⟨⟨by omega, by omega, ?_, ?_⟩, ⟨by omega⟩⟩⟩
        · rw [show (i + 1).toNat = i.toNat + 1 by omega, sumN_take_succ l _ r hrr]
        · rw [show (i + 1).toNat = i.toNat + 1 by omega]; exact h1
      · exact ⟨false, rfl, fun _ => .inr h1, fun h => by simp at h⟩
    rcases hy.out w hw with ⟨g, xs, h1, h2⟩ | ⟨l', g, tmps, assign, body, h1, h2⟩
    · exact .inl ⟨g, xs, h1, h2.mono fun e w' ⟨v, H', he, hn', hq⟩ => ⟨v, H', he, hn', key v H' hq⟩⟩
    · exact .inr ⟨l', g, tmps, assign, body, h1, h2.mono fun e w' ⟨v, H', he, hn', hq⟩ => ⟨v, H', he, hn', key v H' hq⟩⟩
  · have : i = n := by simp at h; omega
    subst this
    rw [List.length_map, packL_len, hl.len]
    simpa using hJ

def movesOf (l : List Rn) : List (Int × Int × Int) := if apartF 0 l = true then movesF l else []
theorem moveOf_len (l : List (Rn × Int)) : (l.flatMap moveOf).length ≤ l.length := by
  induction l with
  | nil => simp
  | cons x l ih =>
    rw [List.flatMap_cons, List.length_append, List.length_cons]
    have : (moveOf x).length ≤ 1 := by unfold moveOf; split <;> simp
    omega
theorem moves_ok {H : PHeap} {oa : Option Addr} {n c : Nat} {l : List Rn} (hl : RdL H E2 2 oa n l) (hn : n ≤ 60) (h64 : ∀ r ∈ l, -9223372036854775808 ≤ r.1 ∧ r.1 ≤ 9223372036854775807 ∧ -9223372036854775808 ≤ r.2 ∧ r.2 ≤ 9223372036854775807) :
    Triple Try.prog 15 #[.slice oa n c] H fun v H' => ∃ b m k, v = .slice b m k ∧ OwnL H' 45 E3 3 b m k (movesOf l) ∧ Sub H H' ∧ Off H b := by
  refine moves.vc oa n c H _ fun k4 hk4 => ((apart_ok (hl.mono (Sub.upd _ hk4)) hn h64).mono ?_)
  rintro _ _ ⟨rfl, rfl⟩
  refine ⟨_, rfl, fun h => ⟨none, 0, 0, (Bx.new H k4 _ [.slice none 0 0]).reads, none, 0, 0, rfl, ?_, Sub.upd _ hk4, Off.none _⟩, fun h => packed_ok.mono ?_⟩
  · have : apartF 0 l = false := by simpa using h
    rw [movesOf, if_neg (by simp [this])]
    exact Owns.nil _ _ 3
  rintro _ _ ⟨kc, hkc, rfl, rfl⟩
  have hap : apartF 0 l = true := by simpa using h
  have hge := apart_ge hap
  have hne : kc ≠ k4 := fun e => by rw [e, upd_eq] at hkc; cases hkc
  have hkc' : H kc = none := by rwa [upd_ne _ _ hne] at hkc
  have hk4r : (H.upd kc (.cells #[.slice oa n c] 36 (0, 0))) k4 = none := by rw [upd_ne _ _ (fun e => hne e.symm)]; exact hk4
  have hsr : Sub (H.upd kc (.cells #[.slice oa n c] 36 (0, 0))) ((H.upd k4 (.cells #[.slice none 0 0] 38 (0, 0))).upd kc (.cells #[.slice oa n c] 36 (0, 0))) := by
    refine ⟨fun k o hk => ?_⟩
    by_cases e : k = kc
    · subst e; rw [upd_eq] at hk ⊢; exact hk
    · rw [upd_ne _ _ e] at hk ⊢
      rw [upd_ne _ _ (fun e => by rw [e, hk4] at hk; cases hk)]; exact hk
  refine ⟨_, rfl, (packL 0 l).map packE, fun i H' => ∃ b m k, Bx H' k4 38 [.slice b m k] ∧ OwnL H' 45 E3 3 b m k (((packL 0 l).take i).flatMap moveOf) ∧
    Sub (H.upd kc (.cells #[.slice oa n c] 36 (0, 0))) H' ∧ Off (H.upd kc (.cells #[.slice oa n c] 36 (0, 0))) b ∧ (∀ a, b = some a → k4 ≠ a.block), fun _ _ => False, _, hsr,
    packed_iter (Bx.new H kc _ [.slice oa n c]) (hl.mono (Sub.upd _ hkc')) hn (fun r hr => by have := hge r hr; omega), ⟨?_⟩, ?_, ⟨none, 0, 0, (Bx.new H k4 _ _).upd _ (by rw [upd_ne _ _ hne]; exact hkc'), Owns.nil _ _ 3, hsr, Off.none _, fun _ e => by cases e⟩, ?_, ?_, trivial, trivial⟩
  · intro x hx
    obtain ⟨y, _, rfl⟩ := List.mem_map.1 hx
    rfl
  · rintro i H' ⟨_, _, _, _, _, h, _⟩; exact h
  · rintro n20 n21 n22 i H1 ⟨hnth⟩ ⟨b, m, k, hbx, how, hs, hoff, hbk⟩ k25 hk25
    rw [List.getElem?_map] at hnth
    cases hp : (packL 0 l)[i]? with
    | none => rw [hp] at hnth; cases hnth
    | some x =>
      rw [hp] at hnth
      simp [packE, E2, pairE, intE] at hnth
      obtain ⟨⟨rfl, rfl⟩, rfl⟩ := hnth
      have hil : i < l.length := by have := (List.getElem?_eq_some_iff.1 hp).1; rwa [packL_len] at this
      have hin : i < n := by have := hl.len; omega
      have hm : m ≤ i := by
        have h1 := how.len
        rw [length_flatMap (E := E3) (sz := 3) (fun _ => rfl)] at h1
        have h2 := moveOf_len ((packL 0 l).take i)
        rw [List.length_take] at h2
        omega
      have htake : ((packL 0 l).take (i + 1)).flatMap moveOf = ((packL 0 l).take i).flatMap moveOf ++ moveOf x := by
        rw [List.take_add_one, hp, List.flatMap_append]; simp
      have hb1 := Bx.new H1 k25 47 [.int .i64 0, .int .i64 0]
      have hw := hb1.writes [.int .i64 x.1.1, .int .i64 x.1.2] rfl
      have hupd : ∀ (o1 o2 : Obj), (H1.upd k25 o1).upd k25 o2 = H1.upd k25 o2 := fun o1 o2 => funext fun k => by unfold PHeap.upd; split <;> rfl
      rw [hupd] at hw
      have hb2 := Bx.new H1 k25 47 [.int .i64 x.1.1, .int .i64 x.1.2]
      have r0 := hb2.readsAt 0 (l2 := [.int .i64 x.1.1]) (fun j v hv => by cases j with | zero => simpa using hv | succ j => simp at hv)
      have r1 := hb2.readsAt 1 (l2 := [.int .i64 x.1.2]) (fun j v hv => by cases j with | zero => simpa using hv | succ j => simp at hv)
      have hs2 := hs.trans (Sub.upd (.cells #[.int .i64 x.1.1, .int .i64 x.1.2] 47 (0, 0)) hk25)
      have how2 : OwnL (H1.upd k25 (.cells #[.int .i64 x.1.1, .int .i64 x.1.2] 47 (0, 0))) 45 E3 3 b m k (((packL 0 l).take i).flatMap moveOf) := how.mono fun a o ha ho => by rw [upd_ne _ _ (fun e => by rw [e, hk25] at ho; cases ho)]; exact ho
      have hbx2 := hbx.upd (.cells #[.int .i64 x.1.1, .int .i64 x.1.2] 47 (0, 0)) hk25
      refine ⟨_, hw, ⟨by simp⟩, x.1.1, r0, fun hc => ⟨b, m, k, hbx2.reads, ⟨by simp⟩, x.1.1, r0, ⟨by simp⟩, x.1.2, r1, fun k33 hk33 => ?_⟩, fun hc => ⟨b, m, k, hbx2, ?_, hs2, hoff, hbk⟩⟩
      · refine append_one tMoves hk33 (x := (x.1.1, x.2, x.1.2)) (fun _ => rfl) how2 rfl (oneE3 _) (by simp [maxLen]; omega) (by omega) ?_
        intro b' k' H' h1 h2 h3 _
        have hbx3 : Bx H' k4 38 [.slice b m k] := hbx2.frame h2 hbk
        refine ⟨b', m + 1, k', rfl, _, hbx3.writes [.slice b' (m + 1) k'] rfl, b', m + 1, k', Bx.new _ _ _ _, ?_, Bx.sub_of (h2.sub hs2 hoff) hk4r, h3.off hs2 hoff, ?_⟩
        · rw [htake, moveOf, if_pos (by simpa using hc)]
          exact h1.mono fun a o ha ho => by
            rw [upd_ne _ _ (fun e => ?_)]; exact ho
            rcases h3 a ha with ⟨a2, e2, e3⟩ | e2
            · exact hbk a2 e2 (by rw [e3, e])
            · rw [e, hbx2] at e2; cases e2
        · intro a ha e
          rcases h3 a ha with ⟨a2, e2, e3⟩ | e2
          · exact hbk a2 e2 (by rw [e3, e])
          · rw [← e, hbx2] at e2; cases e2
      · rw [htake, moveOf, if_neg (by simpa using hc), List.append_nil]; exact how2
  · rintro H' ⟨b, m, k, hbx, how, hs, hoff, hbk⟩
    refine ⟨b, m, k, hbx.reads, b, m, k, rfl, ?_, (Sub.upd _ hkc').trans hs, fun a ha => ?_⟩
    · rw [movesOf, if_pos hap, movesF]
      rwa [List.length_map, List.take_length] at how
    · have := hoff a ha
      by_cases e : a.block = kc
      · rw [e]; exact hkc'
      · rwa [upd_ne _ _ e] at this
end Go.Comp
