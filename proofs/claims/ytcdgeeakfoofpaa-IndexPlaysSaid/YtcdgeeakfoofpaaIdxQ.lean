/- The document's Put. -/
import Derived.Test.YtcdgeeakfoofpaaIdxR
namespace Go.Idx
open Go.Vx Go.Vc Go.Proofs Go.Txt

/-- A slice of the document's entries that the call makes. -/
structure Est (H H' : PHeap) (oa : Option Addr) (n c : Nat) (out : List En) : Prop where
  own : OwnL H' 28 eE 4 oa n c out
  sub : Sub H H'
  off : Off H oa
theorem Est.len {H H' : PHeap} {oa : Option Addr} {n c : Nat} {out : List En} (h : Est H H' oa n c out) : out.length = n := (h.own.rd (E := eE) (sz := 4) (by omega) eLen).len
theorem Est.more {H H1 : PHeap} {oa : Option Addr} {n c : Nat} {out : List En} {x : En} (h : Est H H1 oa n c out) (hn : n ≤ 1000) {k : Nat} (hk : H1 k = none) {K : Value → PHeap → Prop}
    (hK : ∀ b m H', Est H H' b (n + 1) m (out ++ [x]) → K (.slice b (n + 1) m) H') :
    EvV Try.prog (Builtin.append_ #[26, 26] 26 #[.slice oa n c, .slice (at0 k) 1 1]) (H1.upd k (.cells #[.string x.1, .int .i64 x.2.1, .int .i64 x.2.2.1, .int .i64 x.2.2.2] 28)) K := by
  refine append_one tRe hk (E := eE) (x := x) eLen h.own rfl (eOne x) (by simp [maxLen]; omega) (by omega) ?_
  intro b m H' g1 g2 g3 _
  exact hK b m H' ⟨g1, g2.sub h.sub h.off, g3.off h.sub h.off⟩
/-- What the loop has, behind i entries. -/
def insAt (A B : List En) (e : En) (i : Nat) : Bool → List En
  | true => A ++ e :: B.take (i - A.length)
  | false => A.take i
theorem refPut_ok {H : PHeap} {oa : Option Addr} {n cc : Nat} {l A M B : List En} {e : En} (hl : RdL H eE 4 oa n l) (hc : n ≤ cc) (hn : n ≤ 900) (he : e.1.size ≤ 1000000) (c : Cut l (key e) A M B) :
    Triple Try.prog 10 #[.slice oa n cc, .agg (eE e).toArray] H fun v H' => ∃ b m k, v = .slice b m k ∧ Est H H' b m k (A ++ e :: B) := by
  obtain ⟨s, r, a, q⟩ := e
  have hlen := c.len
  have hll := hl.len
  refine refPut.vc oa n cc s r a q H _ ((refFind_ok hl (by omega) c).mono ?_)
  rintro _ H0 ⟨rfl, rfl⟩
  refine ⟨_, rfl, ?_⟩
  apply twice (α := Option Addr) (β := Nat) (γ := PHeap) (C := fun a1 k2 H9 => RdL H9 eE 4 a1 k2 (A ++ B) ∧ Sub H0 H9)
  · intro use
    refine ⟨fun hi => ?_, fun hi => ?_⟩
    · have hM : M ≠ [] := by
        rintro rfl
        simp at hi
      have hE : M.isEmpty = false := by simpa using hM
      have hd1 := c.drop1 hM
      have hM1 : M.length ≠ 0 := fun e1 => hM (List.eq_nil_of_length_eq_zero e1)
      rw [hE, if_neg (by simp)]
      refine (refDrop_ok (i := A.length) hl (by omega) hc (by omega)).mono ?_
      rintro _ H2 ⟨b, k, rfl, g1, g2, g3⟩
      rw [c.take, hd1] at g1
      refine ⟨b, n - 1, k, rfl, ?_⟩
      generalize n - 1 = n1 at g1 ⊢
      exact use b n1 H2 ⟨g1.rd (E := eE) (sz := 4) (by omega) eLen, g2⟩
    · have hM : M = [] := by
        refine Classical.byContradiction fun hM => ?_
        have hE : M.isEmpty = false := by simpa using hM
        rw [hE, if_neg (by simp)] at hi
        simp at hi
      subst hM
      have e1 := c.eq
      rw [List.append_nil] at e1
      exact use oa n H0 ⟨by rw [← e1]; exact hl, Sub.refl _⟩
  · rintro a1 k2 H9 ⟨hrd, hs⟩
    have c2 := c.without
    have hl2 := hrd.len
    have hn2 : k2 ≤ 900 := by rw [← hl2, List.length_append]; omega
    refine ⟨fun t H' => match t with | [.slice b m k, .bool d, .int _ i] => 0 ≤ i ∧ i ≤ k2 ∧ m ≤ i + 1 ∧ (d = true → A.length < i) ∧ (d = false → i ≤ A.length) ∧ Est H9 H' b m k (insAt A B (s, r, a, q) i.toNat d) | _ => False, fun t _ => match t with | [_, _, .int _ i] => (k2 - i).toNat | _ => 0, ⟨by omega, by omega, by omega, fun h => by simp at h, fun _ => by omega, ⟨Owns.nil _ _ 4, Sub.refl _, Off.none _⟩⟩, ?_⟩
    rintro b m k d i H1 ⟨i0, i1, hm, hd1, hd0, hst⟩
    obtain ⟨i, rfl⟩ : ∃ j : Nat, i = j := ⟨i.toNat, by omega⟩
    rw [Int.toNat_natCast] at hst
    have hrd1 := hrd.mono hst.sub
    have hml := hst.len
    refine ⟨fun hi => ?_, fun hi => ?_⟩
    · have hi' : i < k2 := by simpa using hi
      obtain ⟨x, hx, hxr⟩ := hrd1.ex (i := (i : Int)) (by omega) (by omega)
      rw [Int.toNat_natCast] at hx
      have hgt := c2.gt_at rfl hx
      have hBx : A.length ≤ i → B.take (i + 1 - A.length) = B.take (i - A.length) ++ [x] := fun h => by
        rw [List.getElem?_append_right h] at hx
        rw [show i + 1 - A.length = (i - A.length) + 1 by omega, List.take_add_one, hx]
        rfl
      have hAx : i < A.length → A.take (i + 1) = A.take i ++ [x] := fun h => by
        rw [List.getElem?_append_left h] at hx
        rw [List.take_add_one, hx]
        rfl
      have ob := hrd1.ob (i := (i : Int)) (by omega) (by omega)
      rw [wrapS (by omega) (by omega)]
      refine ⟨H1, Sub.refl _, fun hd => ?_, fun hd => ?_⟩
      · have hd' : d = false := by simpa using hd
        subst hd'
        have hiA := hd0 rfl
        have hmi : m ≤ i := by
          simp only [insAt, List.length_take] at hml
          omega
        refine ⟨ob, x.1, x.2.1, x.2.2.1, x.2.2.2, hxr, (refLess_ok (x := (s, r, a, q)) (y := x) he).use ⟨_, rfl, fun hb kk hkk => ?_, fun hb => ?_⟩⟩
        · rw [hgt] at hb
          have hAi : A.length ≤ i := of_decide_eq_true hb
          have hi2 : i = A.length := by omega
          refine hst.more (x := (s, r, a, q)) (by omega) hkk fun b2 m2 H2 hst2 => ⟨b2, _, m2, rfl, ob, x.1, x.2.1, x.2.2.1, x.2.2.2, (hrd.mono hst2.sub).at (by omega) (by simpa using hx), fun kk2 hkk2 => ?_⟩
          refine hst2.more (x := x) (by omega) hkk2 fun b3 m3 H3 hst3 => ⟨b3, _, m3, rfl, ⟨by omega, by omega, by omega, fun _ => by omega, fun h => (by simp at h), ?_⟩, ⟨by simp only; omega⟩⟩
          rw [show ((i : Int) + 1).toNat = i + 1 by omega]
          have hb0 := hBx hAi
          have e0 : A.take i = A := List.take_of_length_le (by omega)
          have : insAt A B (s, r, a, q) i false ++ [(s, r, a, q)] ++ [x] = insAt A B (s, r, a, q) (i + 1) true := by
            simp only [insAt, e0, hb0]
            rw [hi2, Nat.sub_self]
            simp
          rw [← this]; exact hst3
        · rw [hgt] at hb
          have hAi : i < A.length := by
            have : ¬ A.length ≤ i := of_decide_eq_false hb
            omega
          refine ⟨ob, x.1, x.2.1, x.2.2.1, x.2.2.2, hxr, fun kk hkk => ?_⟩
          refine hst.more (x := x) (by omega) hkk fun b3 m3 H3 hst3 => ⟨b3, _, m3, rfl, ⟨by omega, by omega, by omega, fun h => (by simp at h), fun _ => by omega, ?_⟩, ⟨by simp only; omega⟩⟩
          rw [show ((i : Int) + 1).toNat = i + 1 by omega]
          have : insAt A B (s, r, a, q) i false ++ [x] = insAt A B (s, r, a, q) (i + 1) false := by
            simp only [insAt, hAx hAi]
          rw [← this]; exact hst3
      · have hd' : d = true := by simpa using hd
        subst hd'
        have hiA := hd1 rfl
        refine ⟨ob, x.1, x.2.1, x.2.2.1, x.2.2.2, hxr, fun kk hkk => ?_⟩
        refine hst.more (x := x) (by omega) hkk fun b3 m3 H3 hst3 => ⟨b3, _, m3, rfl, ⟨by omega, by omega, by omega, fun _ => by omega, fun h => (by simp at h), ?_⟩, ⟨by simp only; omega⟩⟩
        rw [show ((i : Int) + 1).toNat = i + 1 by omega]
        have : insAt A B (s, r, a, q) i true ++ [x] = insAt A B (s, r, a, q) (i + 1) true := by
          simp only [insAt, hBx (by omega), List.append_assoc, List.cons_append]
        rw [← this]; exact hst3
    · have hi' : i = k2 := by
        have : ¬ i < k2 := by simpa using hi
        omega
      rw [List.length_append] at hl2
      have hEst : ∀ {b : Option Addr} {m k : Nat} {H' : PHeap} {o : List En}, Est H9 H' b m k o → Est H0 H' b m k o := fun h => ⟨h.own, hs.trans h.sub, fun a ha => by
        have := h.off a ha
        cases h2 : H0 a.block with
        | none => rfl
        | some o => rw [hs.le _ _ h2] at this; cases this⟩
      refine ⟨fun hd kk hkk => ?_, fun hd => ?_⟩
      · have hd' : d = false := by simpa using hd
        subst hd'
        have hiA := hd0 rfl
        have hB : B = [] := List.eq_nil_of_length_eq_zero (by omega)
        subst hB
        refine hst.more (x := (s, r, a, q)) (by omega) hkk fun b2 m2 H2 hst2 => ⟨b2, _, m2, rfl, b2, _, m2, rfl, ?_⟩
        have e0 : A.take i = A := List.take_of_length_le (by simp at hl2; omega)
        have : insAt A [] (s, r, a, q) i false ++ [(s, r, a, q)] = A ++ [(s, r, a, q)] := by
          simp only [insAt, e0]
        rw [← this]; exact hEst hst2
      · have hd' : d = true := by simpa using hd
        subst hd'
        refine ⟨b, m, k, rfl, ?_⟩
        have e0 : B.take (i - A.length) = B := List.take_of_length_le (by omega)
        have : insAt A B (s, r, a, q) i true = A ++ (s, r, a, q) :: B := by
          simp only [insAt, e0]
        rw [← this]; exact hEst hst
end Go.Idx
