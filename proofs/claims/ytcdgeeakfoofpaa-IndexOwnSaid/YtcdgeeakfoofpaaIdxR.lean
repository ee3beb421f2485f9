/- The index's names, and the document's entries. -/
import Derived.Test.YtcdgeeakfoofpaaIdxC
import Derived.Test.YtcdgeeakfoofpaaTxtC
namespace Go.Idx
open Go.Vx Go.Vc Go.Proofs Go.Txt

/-! ### Names of the program -/
/-- A slice of texts that the call makes. -/
structure Nst (H H' : PHeap) (oa : Option Addr) (n c : Nat) (out : List ByteArray) : Prop where
  own : OwnL H' 9 sE 1 oa n c out
  sub : Sub H H'
  off : Off H oa
theorem Nst.len {H H' : PHeap} {oa : Option Addr} {n c : Nat} {out : List ByteArray} (h : Nst H H' oa n c out) : out.length = n := (h.own.rd (E := sE) (sz := 1) (by omega) sLen).len
theorem Nst.more {H H1 : PHeap} {oa : Option Addr} {n c : Nat} {out : List ByteArray} {s : ByteArray} (h : Nst H H1 oa n c out) (hn : n ≤ 1000) {k : Nat} (hk : H1 k = none) {K : Value → PHeap → Prop}
    (hK : ∀ b m H', Nst H H' b (n + 1) m (out ++ [s]) → K (.slice b (n + 1) m) H') :
    EvV Try.prog (Builtin.append_ #[46, 46] 46 #[.slice oa n c, .slice (at0 k) 1 1]) (H1.upd k (.cells #[.string s] 9)) K := by
  refine append_one tStr hk (E := sE) (x := s) sLen h.own rfl (sOne s) (by simp [maxLen]; omega) (by omega) ?_
  intro b m H' g1 g2 g3 _
  exact hK b m H' ⟨g1, g2.sub h.sub h.off, g3.off h.sub h.off⟩
theorem names_of {H : PHeap} {oa : Option Addr} {n c : Nat} {l : List En} {p : Option Addr} (hall : Triple Try.prog 15 #[.pointer p] H fun v H' => ∃ b n c, v = .slice b n c ∧ RdL H' eE 4 b n l ∧ Sub H H') (hn : l.length ≤ 999) :
    Triple Try.prog 17 #[.pointer p] H fun v H' => ∃ b n c, v = .slice b n c ∧ Nst H H' b n c (namesL l) := by
  refine namesI.vc p H _ (hall.mono ?_)
  rintro _ H1 ⟨a4, k5, k6, rfl, hrd, hs1⟩
  have hl := hrd.len
  refine ⟨a4, k5, k6, rfl, fun t H' => match t with | [.slice b m k, .int _ i] => 0 ≤ i ∧ i ≤ k5 ∧ m ≤ i ∧ Nst H1 H' b m k (namesL (l.take i.toNat)) | _ => False, fun t _ => match t with | [_, .int _ i] => (k5 - i).toNat | _ => 0, ⟨by omega, by omega, by omega, ⟨Owns.nil _ _ 1, Sub.refl _, Off.none _⟩⟩, ?_⟩
  rintro b m k i H2 ⟨i0, i1, hm, hst⟩
  obtain ⟨i, rfl⟩ : ∃ j : Nat, i = j := ⟨i.toNat, by omega⟩
  rw [Int.toNat_natCast] at hst
  have hrd2 := hrd.mono hst.sub
  refine ⟨fun hi => ?_, fun hi => ?_⟩
  · have hi' : i < k5 := by simpa using hi
    obtain ⟨x, hx, hxr⟩ := hrd2.ex (i := (i : Int)) (by omega) (by omega)
    rw [Int.toNat_natCast] at hx
    have ht : l.take (i + 1) = l.take i ++ [x] := by rw [List.take_add_one, hx]; rfl
    have hstep : namesL (l.take (i + 1)) = addN (namesL (l.take i)) x.1 := by rw [ht, namesL_snoc]
    have hml := hst.len
    rw [wrapS (by omega) (by omega)]
    refine ⟨hrd2.ob (by omega) (by omega), x.1, x.2.1, x.2.2.1, x.2.2.2, hxr, H2, Sub.refl _, fun hm0 => ?_, fun hm0 => ?_⟩
    · have hmp : 0 < m := by
        have : ¬ (m : Int) = 0 := by simpa using hm0
        omega
      have ew : IntKind.i64.wrap ((m : Int) - 1) = ((m - 1 : Nat) : Int) := by rw [show (m : Int) - 1 = ((m - 1 : Nat) : Int) by omega]; exact wrap64 (by omega) (by omega)
      have hrdo := hst.own.rd (E := sE) (sz := 1) (by omega) sLen
      obtain ⟨t, htl, htr⟩ := hrdo.ex (i := ((m - 1 : Nat) : Int)) (by omega) (by omega)
      rw [Int.toNat_natCast] at htl
      have hlast : (namesL (l.take i)).getLast? = some t := by rw [List.getLast?_eq_getElem?, hml]; exact htl
      rw [ew]
      refine ⟨hrdo.ob (by omega) (by omega), t, htr, fun hne kk hkk => ?_, fun he => ?_⟩
      · have hne' : eqS t x.1 = false := by simpa using hne
        refine hst.more (by omega) hkk fun b' m' H' hst' => ⟨b', _, m', rfl, ⟨by omega, by omega, by omega, ?_⟩, ⟨by simp only; omega⟩⟩
        rw [show ((i : Int) + 1).toNat = i + 1 by omega, hstep]
        unfold addN
        rw [hlast]
        simp only [hne', Bool.false_eq_true, if_false]
        exact hst'
      · have he' : eqS t x.1 = true := by simpa using he
        refine ⟨⟨by omega, by omega, by omega, ?_⟩, ⟨by simp only; omega⟩⟩
        rw [show ((i : Int) + 1).toNat = i + 1 by omega, hstep]
        unfold addN
        rw [hlast]
        simp only [he', if_true]
        exact hst
    · intro kk hkk
      have hmp : m = 0 := by simpa using hm0
      subst hmp
      have hnil : namesL (l.take i) = [] := List.eq_nil_of_length_eq_zero hml
      refine hst.more (by omega) hkk fun b' m' H' hst' => ⟨b', _, m', rfl, ⟨by omega, by omega, by omega, ?_⟩, ⟨by simp only; omega⟩⟩
      rw [show ((i : Int) + 1).toNat = i + 1 by omega, hstep]
      unfold addN
      rw [hnil] at hst' ⊢
      exact hst'
  · have : ¬ i < k5 := by simpa using hi
    have e : l.take i = l := List.take_of_length_le (by omega)
    rw [e] at hst
    exact ⟨b, m, k, rfl, hst.own, hs1.trans hst.sub, fun a ha => by
      have := hst.off a ha
      cases h : H a.block with
      | none => rfl
      | some o => rw [hs1.le _ _ h] at this; cases this⟩
theorem names_ok {F H : PHeap} {k : Nat} {l : List En} (hx : Ix F H k l) (hl : l.length ≤ 999) :
    Triple Try.prog 17 #[.pointer (at0 k)] H fun v H' => ∃ b n c, v = .slice b n c ∧ Nst H H' b n c (namesL l) :=
  names_of (oa := none) (n := 0) (c := 0) ((all_ok hx (by omega)).mono fun v H' ⟨b, n, c, e, g1, g2, _⟩ => ⟨b, n, c, e, g1.rd (E := eE) (sz := 4) (by omega) eLen, g2⟩) hl
theorem names_nil (H : PHeap) : Triple Try.prog 17 #[.pointer none] H fun v H' => ∃ b n c, v = .slice b n c ∧ Nst H H' b n c [] :=
  names_of (l := []) (oa := none) (n := 0) (c := 0) ((all_nil H).mono fun v H' ⟨e, e2⟩ => ⟨none, 0, 0, e, RdL.nil _ _ _, by rw [e2]; exact Sub.refl _⟩) (by simp)

/-! ### The document's entries -/
theorem tRe : ElemT Try.prog 26 28 4 40 := .of (by kernel_rfl)
theorem fld_name {H : PHeap} {oa : Option Addr} {x : En} (h : Reads H oa (eE x)) : Reads H (fldA oa 0) [.string x.1] := h.fld 0 fun j v hv => by
  match j, hv with
  | 0, hv => simpa [eE, pairE, strE, intE] using hv
  | j + 1, hv => simp at hv
theorem fld_role {H : PHeap} {oa : Option Addr} {x : En} (h : Reads H oa (eE x)) : Reads H (fldA oa 1) [.int .i64 x.2.1] := h.fld 1 fun j v hv => by
  match j, hv with
  | 0, hv => simpa [eE, pairE, strE, intE] using hv
  | j + 1, hv => simp at hv
theorem refFind_ok {H : PHeap} {oa : Option Addr} {n cc : Nat} {l A M B : List En} {s : ByteArray} {r : Int} (hl : RdL H eE 4 oa n l) (hn : n ≤ 1000) (c : Cut l (s, r) A M B) :
    Triple Try.prog 7 #[.slice oa n cc, .string s, .int .i64 r] H fun v H' => v = .int .i64 (if M.isEmpty then -1 else A.length) ∧ H' = H := by
  have hlen := c.len
  have hll := hl.len
  refine refFind.vc oa n cc s r H _ ⟨fun t H' => match t with | [.int _ i] => 0 ≤ i ∧ i ≤ n ∧ H' = H ∧ (M ≠ [] → i ≤ A.length) | _ => False, fun t _ => match t with | [.int _ i] => (n - i).toNat | _ => 0, ⟨by omega, by omega, rfl, fun _ => by omega⟩, ?_⟩
  rintro i H1 ⟨i0, i1, rfl, hA⟩
  obtain ⟨i, rfl⟩ : ∃ j : Nat, i = j := ⟨i.toNat, by omega⟩
  refine ⟨fun hi => ?_, fun hi => ?_⟩
  · have hi' : i < n := by simpa using hi
    obtain ⟨x, hx, hxr⟩ := hl.ex (i := (i : Int)) (by omega) (by omega)
    rw [Int.toNat_natCast] at hx
    have hk := c.key_at hx
    have next : key x ≠ (s, r) → M ≠ [] → (i : Int) + 1 ≤ A.length := fun h1 h2 => by
      have h3 := hA h2
      have : i ≠ A.length := fun e => h1 (hk.2 ⟨e, h2⟩)
      omega
    rw [wrapS (by omega) (by omega)]
    refine ⟨hl.ob (by omega) (by omega), ⟨hl.elem_ne (by omega) (by omega)⟩, x.1, fld_name hxr, fun he => ?_, fun he => ?_⟩
    · refine ⟨hl.ob (by omega) (by omega), ⟨hl.elem_ne (by omega) (by omega)⟩, x.2.1, fld_role hxr, fun hr => ?_, fun hr => ?_⟩
      · have := hk.1 (key_eq (a := (x.1, x.2.1)) (b := (s, r)) |>.1 (by simp only [he, hr, Bool.and_self]))
        have hM : M.isEmpty = false := by simpa using this.2
        refine ⟨?_, rfl⟩
        rw [hM, this.1]
        rfl
      · refine ⟨⟨by omega, by omega, rfl, next fun e => ?_⟩, ⟨by simp only; omega⟩⟩
        have e2 : x.2.1 = r := congrArg Prod.snd e
        rw [e2] at hr
        simp at hr
    · refine ⟨⟨by omega, by omega, rfl, next fun e => ?_⟩, ⟨by simp only; omega⟩⟩
      have e2 : x.1 = s := congrArg Prod.fst e
      rw [e2, eqS_iff.2 rfl] at he
      simp at he
  · have hi' : ¬ i < n := by simpa using hi
    have hM : M = [] := by
      refine Classical.byContradiction fun hM => ?_
      have := hA hM
      have : M.length ≠ 0 := fun e1 => hM (List.eq_nil_of_length_eq_zero e1)
      omega
    rw [hM]
    exact ⟨rfl, rfl⟩
theorem refDrop_ok {H : PHeap} {oa : Option Addr} {n c i : Nat} {l : List En} (hl : RdL H eE 4 oa n l) (hi : i < n) (hc : n ≤ c) (hn : n ≤ 1000) :
    Triple Try.prog 12 #[.slice oa n c, .int .i64 i] H fun v H' => ∃ b k, v = .slice b (n - 1) k ∧ OwnL H' 28 eE 4 b (n - 1) k (l.take i ++ l.drop (i + 1)) ∧ Sub H H' ∧ Off H b := by
  refine refDrop.vc oa n c i H _ fun k1 hk1 => ?_
  rw [wrapS (by omega) (by omega), show (i : Int) + 1 = ((i + 1 : Nat) : Int) by omega]
  refine ⟨⟨by omega, by omega, by omega⟩, ?_⟩
  simp only [slA_zero, Int.toNat_natCast, Int.toNat_zero, Nat.sub_zero]
  have hs1 := Sub.upd (.cells #[] 28 (0, 0)) hk1
  have ho1 := off_at0 hk1
  refine append_rd tRe (E := eE) (l := []) eLen (Owns.empty H k1 _ 4) ((hl.take (i := i) (by omega)).mono hs1) eOne (by simp [maxLen]; omega) (by omega) ?_
  intro b2 c2 H2 g2 hf2 hfr2
  rw [Nat.zero_add] at g2 ⊢
  rw [List.nil_append] at g2
  have hs2 := hf2.sub hs1 ho1
  have ho2 := hfr2.off hs1 ho1
  refine ⟨b2, i, c2, rfl, ⟨by omega, by omega, by omega⟩, ?_⟩
  refine append_rd tRe (E := eE) eLen g2 ((hl.drop (i := i + 1) (by omega) hc).mono hs2) eOne (by simp [maxLen]; omega) (by omega) ?_
  intro b3 c3 H3 g3 hf3 hfr3
  rw [show i + (n - (i + 1)) = n - 1 by omega] at g3 ⊢
  exact ⟨b3, _, c3, rfl, b3, c3, rfl, g3, hf3.sub hs2 ho2, hfr3.off hs2 ho2⟩
theorem refLess_ok {x y : En} (hs : x.1.size ≤ 1000000) : Pure Try.prog 22 #[.agg (eE x).toArray, .agg (eE y).toArray] (.bool (kLt (key x) (key y))) := fun H => by
  obtain ⟨s, r, a, m⟩ := x
  obtain ⟨t, q, a', m'⟩ := y
  refine refLess.vc s r a m t q a' m' H _ ⟨fun h => (refLessS_ok hs).use ⟨_, rfl, ?_, rfl⟩, fun h => ⟨?_, rfl⟩⟩
  · have h' : eqS s t = false := by simpa using h
    simp [kLt, h']
  · have h' : eqS s t = true := by simpa using h
    simp [kLt, h']
theorem as_ok (x : En) : Pure Try.prog 8 #[.agg (eE x).toArray] (.agg (eE x).toArray) := fun H => by
  obtain ⟨s, r, a, m⟩ := x
  exact asI.vc s r a m H _ ⟨rfl, rfl⟩
theorem sameI_ok {H : PHeap} {oa ob : Option Addr} {n c c2 : Nat} {l : List En} (h1 : RdL H eE 4 oa n l) (h2 : RdL H eE 4 ob n l) (hn : n ≤ 1000) :
    Triple Try.prog 14 #[.slice oa n c, .slice ob n c2] H fun v H' => v = .bool true ∧ H' = H := by
  refine sameI.vc oa n c ob n c2 H _ ⟨fun h => by simp at h, fun _ => ⟨fun l H' => match l with | [.int _ i] => 0 ≤ i ∧ i ≤ n ∧ H' = H | _ => False, fun l _ => match l with | [.int _ i] => (n - i).toNat | _ => 0, ⟨by omega, by omega, rfl⟩, ?_⟩⟩
  rintro i H1 ⟨i0, i1, rfl⟩
  refine ⟨fun hi => ?_, fun _ => ⟨rfl, rfl⟩⟩
  have hi' : i < n := by simpa using hi
  obtain ⟨x, hx, hxr⟩ := h1.ex i0 hi'
  have hx2 := h2.at i0 hx
  refine ⟨_, Sub.refl _, h1.ob i0 hi', x.1, x.2.1, x.2.2.1, x.2.2.2, hxr, h2.ob i0 hi', x.1, x.2.1, x.2.2.1, x.2.2.2, hx2, (as_ok x).use ⟨x.1, x.2.1, x.2.2.1, x.2.2.2, rfl, Sub.refl _, fun h => ?_, fun _ => ?_⟩⟩
  · have : eqS x.1 x.1 = true := eqS_iff.2 rfl
    rw [this] at h; simp at h
  · rw [wrapS i0 (by omega)]
    exact ⟨⟨by omega, by omega, rfl⟩, ⟨by simp only; omega⟩⟩
theorem refNames_ok {H : PHeap} {oa : Option Addr} {n c : Nat} {l : List En} (hl : RdL H eE 4 oa n l) (hn : n ≤ 999) (hs : Sorted l) (hS : ∀ x ∈ l, x.1.size ≤ 1000000) :
    Triple Try.prog 18 #[.slice oa n c] H fun v H' => ∃ b m k, v = .slice b m k ∧ RdL H' sE 1 b m (namesL l) ∧ Sub H H' := by
  have hll := hl.len
  refine refNames.vc oa n c H _ ⟨fun t H' => match t with | [.slice b m k, .int _ i] => 0 ≤ i ∧ i ≤ n ∧ m ≤ k ∧ Sub H H' ∧ RdL H' sE 1 b m (namesL (l.take i.toNat)) | _ => False, fun t _ => match t with | [_, .int _ i] => (n - i).toNat | _ => 0, ⟨by omega, by omega, by omega, Sub.refl _, RdL.nil _ _ _⟩, ?_⟩
  rintro b m k i H1 ⟨i0, i1, hmk, hs1, hrd⟩
  obtain ⟨i, rfl⟩ : ∃ j : Nat, i = j := ⟨i.toNat, by omega⟩
  rw [Int.toNat_natCast] at hrd
  have hl1 := hl.mono hs1
  refine ⟨fun hi => ?_, fun hi => ?_⟩
  · have hi' : i < n := by simpa using hi
    obtain ⟨x, hx, hxr⟩ := hl1.ex (i := (i : Int)) (by omega) (by omega)
    rw [Int.toNat_natCast] at hx
    obtain ⟨e1, e2⟩ := names_step hx hs
    have hm := hrd.len
    have hml := namesL_len (l.take i)
    rw [List.length_take] at hml
    refine ⟨hl1.ob (by omega) (by omega), ⟨hl1.elem_ne (by omega) (by omega)⟩, x.1, fld_name hxr, (add_ok hrd hmk (by omega) fun t ht => ?_).mono ?_⟩
    · obtain ⟨y, hy, rfl⟩ := (names_inv i (by omega) hs).2 t ht
      exact hS y (List.mem_of_mem_take hy)
    · rintro _ H2 ⟨b', m', k', rfl, g1, g2, g3⟩
      rw [wrapS (by omega) (by omega)]
      refine ⟨b', m', k', rfl, ⟨by omega, by omega, g2, hs1.trans g3, ?_⟩, ⟨by simp only; omega⟩⟩
      rw [show ((i : Int) + 1).toNat = i + 1 by omega, e1, ← e2]
      exact g1
  · have hi' : ¬ i < n := by simpa using hi
    rw [List.take_of_length_le (by omega)] at hrd
    exact ⟨b, m, k, rfl, hrd, hs1⟩
end Go.Idx
