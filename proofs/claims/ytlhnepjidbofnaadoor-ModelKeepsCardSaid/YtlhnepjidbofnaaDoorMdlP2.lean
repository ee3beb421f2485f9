/- The law ModelKeeps: the walk. -/
import Derived.Test.YtlhnepjidbofnaaDoorMdlP1
namespace Go.Mdl
open Go.Vx Go.Vc Go.Proofs Go.Txt Go.Lab

def noneH : PHeap := fun _ => none
theorem noneH_sub (H : PHeap) : Sub noneH H := ⟨fun _ _ h => by cases h⟩
theorem law_keeps {T : Lib.PrintTabs} {H : PHeap} {a : Option Addr} {n c : Nat} {l : List EvX} {o : EvW} {x : EvX} (hT : Tabs H T) (h : EvL0 H a n l) (hn : n + 1 ≤ maxLen) (hb : (n + 1) * 136 ≤ 140737488355328) (ho : EvR0 H o x) :
    Triple Tryd.prog 3 #[.slice a n c, .agg (evE o).toArray] H fun v H' => v = .bool true ∧ Sub H H' := by
  have ali : ∀ {H1 : PHeap}, Sub H H1 → Triple Tryd.prog 5 #[] H1 fun v H2 => ∃ b, v = .bool b ∧ (Value.bool b = .bool true ∧ Sub H H2) := fun hs => (alive_ok (hT.mono hs)).mono fun v _ ⟨e, h⟩ => ⟨true, e, rfl, hs.trans h⟩
  obtain ⟨vs, hr, hvl, hev⟩ := h.out
  have hrl := hr.len
  refine lawKeeps.vc a n c o.kind o.id o.ballot o.op.k o.op.s o.op.a o.op.n o.op.c o.an.e o.an.size o.an.d.a o.an.d.n o.an.d.c o.an.n.a o.an.n.n o.an.n.c H _ ⟨H, Sub.refl _, fun k1 hk1 => ⟨Sub.upd _ hk1, copyBig tEv evLen evOne hr (by omega) (by omega) hk1 fun a1 c1 H1 how1 hs1 hof1 => ⟨a1, n, c1, rfl, hs1, fun k2 hk2 => ?_⟩⟩⟩
  refine append_one tEv (E := evE) (x := o) hk2 evLen how1 rfl (evOne _) hn hb ?_
  intro a2 c2 H2 how2 hf2 hfr2 _
  have hs2 := hf2.sub hs1 hof1
  have hL2 : EvL0 H2 a2 (n + 1) (l ++ [x]) := by
    refine ⟨vs ++ [o], how2.rd (E := evE) (sz := 10) (by omega) evLen, by simp [hvl], fun i v y hv hy => ?_⟩
    have up : ∀ {v y}, EvR0 H v y → EvR0 H2 v y := fun h => ⟨h.kind, h.id, h.op.mono hs2, h.an.mono hs2⟩
    by_cases hi : i < vs.length
    · rw [List.getElem?_append_left hi] at hv
      rw [List.getElem?_append_left (by omega)] at hy
      exact up (hev i v y hv hy)
    · rw [List.getElem?_append_right (by omega)] at hv
      rw [List.getElem?_append_right (by omega)] at hy
      have h1 := (List.getElem?_eq_some_iff.1 hv).1
      simp only [List.length_singleton] at h1
      have e0 : i = vs.length := by omega
      subst e0
      rw [hvl] at hv hy
      simp at hv hy
      subst hv hy
      exact up ho
  refine ⟨a2, n + 1, c2, rfl, (lfar_ok hL2 hn).mono ?_⟩
  rintro _ H3 ⟨b, rfl, e3, hfar⟩
  have e3 := e3.symm
  subst e3
  refine ⟨b, rfl, fun _ => ali hs2, fun eb => ?_⟩
  obtain ⟨hn40, _, hS, hne⟩ := hfar eb
  have hE : EvL H2 a n l := (h.small fun e he => hne e (by simp [he])).mono hs2
  have hoR : EvR H2 o x := (ho.small (hne x (by simp))).mono hs2
  have hT2 := hT.mono hs2
  have hll := hE.len
  intro m hm m2 hm2
  have hP0 := Pr.new hm hm2
  refine ⟨fun t H' => match t with | [.int _ i] => 0 ≤ i ∧ i ≤ n ∧ ∃ acc : List EvX, acc.Sublist (l.take i.toNat) ∧ Pr H2 H' m m2 acc acc ∧ okR acc acc.length | _ => False, fun t _ => match t with | [.int _ i] => (n - i).toNat | _ => 0, ⟨by omega, by omega, [], by simp, hP0, okR_zero []⟩, ?_⟩
  rintro i H4 ⟨i0, i1, acc, hsl, hP, hok⟩
  obtain ⟨i, rfl⟩ : ∃ j : Nat, i = j := ⟨i.toNat, by omega⟩
  rw [Int.toNat_natCast] at hsl
  refine ⟨fun hi => ?_, fun hi => ?_⟩
  · have hi' : i < n := by have := of_decide_eq_true hi; omega
    have ew : IntKind.i64.wrap ((i : Int) + 1) = (i : Int) + 1 := wrap64 (by omega) (by omega)
    have ei : ((i : Int) + 1).toNat = i + 1 := by omega
    have he : l[i]? = some l[i] := List.getElem?_eq_getElem (by omega)
    generalize l[i] = e at he
    obtain ⟨w, hw, hrd, hob, _⟩ := hE.at he
    have hsl2 : (acc ++ [e]).Sublist (l.take (i + 1)) := by rw [List.take_add_one, he]; exact hsl.append (List.Sublist.refl _)
    have hSe : SmallE (acc ++ [e]) := hS.sub (hsl2.trans ((List.take_sublist _ _).trans (List.sublist_append_left _ _)))
    rw [ew]
    refine ⟨hob, w.kind, w.id, w.ballot, w.op.k, w.op.s, w.op.a, w.op.n, w.op.c, w.an.e, w.an.size, w.an.d.a, w.an.d.n, w.an.d.c, w.an.n.a, w.an.n.n, w.an.n.c, hrd.mono hP.sub, noneH, noneH_sub _, (pr_take hT2 hP hSe hok hw).mono ?_⟩
    rintro _ H5 ⟨b5, rfl, hb5, hP5⟩
    refine ⟨b5, rfl, noneH_sub _, (pr_take hT2 hP5.symm hSe hok hw).mono ?_⟩
    rintro _ H6 ⟨b6, rfl, hb6, hP6⟩
    have e56 : b5 = b6 := by rw [Bool.eq_iff_iff, hb5, hb6]
    subst e56
    refine ⟨b5, rfl, fun e => by cases b5 <;> simp at e, fun _ => ⟨⟨by omega, by omega, if b5 = true then acc ++ [e] else acc, ?_, hP6.symm, ?_⟩, ⟨by simp only; omega⟩⟩⟩
    · rw [ei]
      cases b5 with
      | true => simp only [if_true]; exact hsl2
      | false => exact (List.sublist_append_left acc [e]).trans hsl2
    · cases b5 with
      | true => simp only [if_true]; rw [List.length_append]; exact hb5.1 rfl
      | false => exact hok
  · have hin : ¬ i < n := by have := of_decide_eq_false hi; omega
    have ein : i = n := by omega
    subst ein
    rw [List.take_of_length_le (by omega)] at hsl
    have hSa : SmallE (acc ++ [x]) := hS.sub (hsl.append (List.Sublist.refl _))
    have hS0 : SmallE acc := hSa.sub (List.sublist_append_left _ _)
    have hs24 := hP.sub
    refine (pr_take hT2 hP hSa hok hoR).mono ?_
    rintro _ H5 ⟨b5, rfl, hb5, hP5⟩
    have hs5 := hP5.sub
    refine ⟨b5, rfl, fun _ => ali (hs2.trans hs5), fun e5 => ?_⟩
    subst e5
    replace hP5 : Pr H2 H5 m m2 acc acc := hP5
    refine ⟨H5, Sub.refl _, (names_ok (hE.mono hs5) (by omega)).mono ?_⟩
    rintro _ H6 ⟨nb, nk, nc, rfl, how6, hof6, hs6⟩
    have hnk : nk ≤ i := by
      have h1 := (how6.rd (E := strE) (sz := 1) (by omega) stLen).len; have h2 := mergeL_len (namesOf l); have h3 := namesOf_len l
      omega
    refine ⟨nb, nk, nc, rfl, hs6, fun k55 hk55 => append_one tStr hk55 (E := sE) (x := o.op.s) sLen how6 rfl (sOne _) (by simp [maxLen]; omega) (by omega) fun na nc2 H7 how7 hf7 hfr7 _ => ?_⟩
    have hs57 := hf7.sub hs6 hof6
    have hrn := how7.rd (E := strE) (sz := 1) (by omega) stLen
    have hP7 := hP5.mono hs57
    refine ⟨na, nk + 1, nc2, rfl, fun t H' => match t with | [.int _ j] => 0 ≤ j ∧ j ≤ (nk + 1 : Nat) ∧ Sub H7 H' | _ => False, fun t _ => match t with | [.int _ j] => ((nk + 1 : Nat) - j).toNat | _ => 0, ⟨by omega, by omega, Sub.refl _⟩, ?_⟩
    rintro j H8 ⟨j0, j1, hs8⟩
    have hP8 := hP7.mono hs8
    refine ⟨fun hj => ?_, fun hj => ?_⟩
    · have hj' : j < (nk + 1 : Nat) := of_decide_eq_true hj
      obtain ⟨s, hsj, hsr⟩ := (hrn.mono hs8).ex (i := j) j0 hj'
      obtain ⟨sl8, hm8⟩ := hP8.left.out
      refine ⟨hrn.ob j0 hj', s, hsr, (can_ok hT2 hm8 (hS0.good _) (hS0.all _) s).mono ?_⟩
      rintro _ H9 ⟨u, us, L, rfl, hru, hst, hcan, _, _, hs9⟩
      obtain ⟨sl9, hm9⟩ := (hP8.mono hs9).symm.left.out
      refine ⟨u.a, u.n, u.c, rfl, (can_ok hT2 hm9 (hS0.good _) (hS0.all _) s).mono ?_⟩
      rintro _ H10 ⟨u2, us2, L2, rfl, hru2, hst2, hcan2, _, _, hs10⟩
      have eL : L = L2 := hcan.uniq hcan2
      subst eL
      have hul := hru.len
      have hul2 := hru2.len
      have hl1 := hst.1
      have hl2 := hst2.1
      have euu : u.n = u2.n := by omega
      refine ⟨u2.a, u2.n, u2.c, rfl, fun e => by simp [euu] at e, fun _ => ⟨fun t H' => match t with | [.int _ p] => 0 ≤ p ∧ p ≤ (u.n : Nat) ∧ H' = H10 | _ => False, fun t _ => match t with | [.int _ p] => ((u.n : Nat) - p).toNat | _ => 0, ⟨by omega, by omega, rfl⟩, ?_⟩⟩
      rintro p H11 ⟨p0, p1, e11⟩
      subst e11
      refine ⟨fun hp => ?_, fun hp => ⟨⟨by rw [wrap64 (by omega) (by omega)]; omega, by rw [wrap64 (by omega) (by omega)]; omega, (hs8.trans hs9).trans hs10⟩, ⟨by rw [wrap64 (by omega) (by omega)]; simp only; omega⟩⟩⟩
      have hp' : p < (u.n : Nat) := of_decide_eq_true hp
      have hru1 := hru.mono hs10
      obtain ⟨v, hv, hvr⟩ := hru1.ex (i := p) p0 hp'
      obtain ⟨v2, hv2, hvr2⟩ := hru2.ex (i := p) p0 (by omega)
      obtain ⟨tx, htx⟩ : ∃ tx, L[p.toNat]? = some tx := ⟨_, List.getElem?_eq_getElem (by omega)⟩
      have hx1 := (hst.mono hs10).2 p.toNat v tx hv htx
      have hx2 := hst2.2 p.toNat v2 tx hv2 htx
      have ra : ∀ {H : PHeap} {a : Option Addr} {v : StV}, Reads H a (tE v) → Reads H (fldA a 0) [.bool v.p] ∧ Reads H (fldA a 1) [.slice v.d.a v.d.n v.d.c] := fun hh => ⟨hh.fld 0 fun z w hw => by
        match z, hw with
        | 0, hw => exact hw
        | z + 1, hw => simp at hw, hh.fld 1 fun z w hw => by
        match z, hw with
        | 0, hw => exact hw
        | z + 1, hw => simp at hw⟩
      refine ⟨H11, Sub.refl _, hru1.ob p0 hp', ⟨hru1.elem_ne p0 hp'⟩, v.p, (ra hvr).1, hru2.ob p0 (by omega), ⟨hru2.elem_ne p0 (by omega)⟩, v2.p, (ra hvr2).1, fun _ => ⟨hru1.ob p0 hp', ⟨hru1.elem_ne p0 hp'⟩, v.d.a, v.d.n, v.d.c, (ra hvr).2, str_of hx1.2 ⟨tx.2, rfl, hru2.ob p0 (by omega), ⟨hru2.elem_ne p0 (by omega)⟩, v2.d.a, v2.d.n, v2.d.c, (ra hvr2).2, str_of hx2.2 ⟨tx.2, rfl, fun e => by simp [eqS_iff.2 rfl] at e, fun _ => ⟨⟨by rw [wrap64 (by omega) (by omega)]; omega, by rw [wrap64 (by omega) (by omega)]; omega, rfl⟩, ⟨by rw [wrap64 (by omega) (by omega)]; simp only; omega⟩⟩⟩⟩⟩, fun e => ?_⟩
      rw [hx1.1, hx2.1] at e
      simp at e
    · have hS1 : SmallE (acc ++ [⟨1, i, ⟨4, ⟨#[]⟩, ⟨#[]⟩⟩, ⟨0, 0, ⟨#[]⟩, []⟩⟩]) := by
        refine ⟨fun e he => ?_, by have := hSa.len; simp at this ⊢; exact this, ?_⟩
        · rcases List.mem_append.1 he with he | he
          · exact hS0.d e he
          · simp at he; subst he; exact Nat.zero_le _
        · rw [List.countP_append]
          have := hS0.fl
          simp [isFl] at this ⊢
          exact this
      refine ⟨noneH, noneH_sub _, (pr_take (ev := ⟨1, i, 0, ⟨4, ⟨#[]⟩, none, 0, 0⟩, ⟨0, 0, z3, z3⟩⟩) hT2 hP8 hS1 hok ⟨rfl, rfl, ⟨rfl, rfl, nilR H2⟩, an0R H2 0, Nat.zero_le _⟩).mono ?_⟩
      rintro _ H9 ⟨b9, rfl, hb9, hP9⟩
      refine ⟨b9, rfl, noneH_sub _, (pr_take (ev := ⟨1, i, 0, ⟨4, ⟨#[]⟩, none, 0, 0⟩, ⟨0, 0, z3, z3⟩⟩) hT2 hP9.symm hS1 hok ⟨rfl, rfl, ⟨rfl, rfl, nilR H2⟩, an0R H2 0, Nat.zero_le _⟩).mono ?_⟩
      rintro _ H10 ⟨b10, rfl, hb10, hP10⟩
      have e9 : b9 = b10 := by rw [Bool.eq_iff_iff, hb9, hb10]
      subst e9
      exact ⟨b9, rfl, fun _ => ali (hs2.trans hP10.sub), fun e => by cases b9 <;> cases e⟩
end Go.Mdl
