/- The law ModelRight: the walk. -/
import Derived.Test.YtlhnepjidbofnaaGreatDoorMdlU5
namespace Go.Mdl
open Go.Vx Go.Vc Go.Proofs Go.Txt Go.Lab

theorem law_right {T : Lib.PrintTabs} {H : PHeap} {a : Option Addr} {n c : Nat} {l : List EvX} (hT : Tabs H T) (h : EvL0 H a n l) (hnc : n ≤ c) (hn : n ≤ maxLen) :
    Triple Tryz.prog 3 #[.slice a n c] H fun v H' => v = .bool true ∧ Sub H H' := by
  have ali : ∀ {H1 : PHeap}, Sub H H1 → Triple Tryz.prog 5 #[] H1 fun v H2 => ∃ b, v = .bool b ∧ (Value.bool b = .bool true ∧ Sub H H2) := fun hs => (alive_ok (hT.mono hs)).mono fun v _ ⟨e, h⟩ => ⟨true, e, rfl, hs.trans h⟩
  refine lawRight.vc a n c H _ ((lfar_ok h hn).mono ?_)
  rintro _ H1 ⟨b, rfl, e1, hfar⟩
  have e1 := e1.symm
  subst e1
  refine ⟨b, rfl, fun _ => ali (Sub.refl _), fun eb => ?_⟩
  obtain ⟨hn40, hE, hS, hne⟩ := hfar eb
  have hln := hE.len
  refine (mright_ok hT hE hS).mono ?_
  rintro _ H2 ⟨b2, rfl, hb2, hs2⟩
  refine ⟨b2, rfl, (rr_ok (hE.mono hs2) hS).mono ?_⟩
  rintro _ H3 ⟨b3, rfl, hb3, hs3⟩
  have e23 : b2 = b3 := by rw [Bool.eq_iff_iff, hb2, hb3]
  subst e23
  refine ⟨b2, rfl, fun e => by cases b2 <;> simp at e, fun _ m hm => ?_⟩
  have hs03 := hs2.trans hs3
  have hE3 := hE.mono hs03
  have hT3 := hT.mono hs03
  refine ⟨fun t H' => match t with | [.int _ i] => 0 ≤ i ∧ i ≤ n ∧ RunK H3 H' m l i.toNat ∧ okR l i.toNat | _ => False, fun t _ => match t with | [.int _ i] => (n - i).toNat | _ => 0, ⟨by omega, by omega, ⟨⟨none, 0, 0⟩, map_new (Sub.refl _) hm l⟩, okR_zero l⟩, ?_⟩
  rintro i H4 ⟨i0, i1, hR, hok⟩
  obtain ⟨i, rfl⟩ : ∃ j : Nat, i = j := ⟨i.toNat, by omega⟩
  rw [Int.toNat_natCast] at hR hok
  have hs4 : Sub H3 H4 := by obtain ⟨sl, h⟩ := hR.out; exact h.sub
  refine ⟨fun hi => ?_, fun hi => ?_⟩
  · have hi' : i < n := by have := of_decide_eq_true hi; omega
    have ew : IntKind.i64.wrap ((i : Int) + 1) = (i : Int) + 1 := wrap64 (by omega) (by omega)
    have ei : ((i : Int) + 1).toNat = i + 1 := by omega
    have he : l[i]? = some l[i] := List.getElem?_eq_getElem (by omega)
    generalize l[i] = e at he
    obtain ⟨w, hw, hr, hob, _⟩ := hE3.at he
    rw [ew, ei]
    have e0 : i + 1 - Int.toNat 0 = i + 1 := rfl
    have ec : c - Int.toNat 0 = c := rfl
    rw [e0, ec]
    refine ⟨hob, w.kind, w.id, w.ballot, w.op.k, w.op.s, w.op.a, w.op.n, w.op.c, w.an.e, w.an.size, w.an.d.a, w.an.d.n, w.an.d.c, w.an.n.a, w.an.n.n, w.an.n.c, hr.mono hs4, H4, Sub.refl _, ⟨by omega, by omega, by omega⟩, (take_at hT3 hS hR hok he hw).mono ?_⟩
    rintro _ H5 ⟨b5, rfl, hb5, hR5⟩
    have hs5 : Sub H3 H5 := by obtain ⟨sl, h⟩ := hR5.out; exact h.sub
    refine ⟨b5, rfl, (rr_at (hE3.mono hs5) hS hnc (i := i + 1) (by omega)).mono ?_⟩
    rintro _ H6 ⟨b6, rfl, hb6, hs6⟩
    have e56 : b5 = b6 := by rw [Bool.eq_iff_iff, hb5, hb6]
    subst e56
    refine ⟨b5, rfl, fun e => by cases b5 <;> simp at e, fun _ => ⟨⟨by omega, by omega, by omega⟩, (rr_at ((hE3.mono hs5).mono hs6) hS hnc (i := i + 1) (by omega)).mono ?_⟩⟩
    rintro _ H7 ⟨b7, rfl, hb7, hs7⟩
    have hs07 : Sub H H7 := ((hs03.trans hs5).trans hs6).trans hs7
    refine ⟨b7, rfl, fun _ => ali hs07, fun e7 => ?_⟩
    have bt : b7 = true := by simpa using e7
    have hok7 := hb7.1 bt
    have b5t : b5 = true := hb5.2 hok7
    subst b5t
    exact ⟨⟨by omega, by omega, by rw [ei]; exact ((by simpa using hR5 : RunK H3 H5 m l (i + 1)).mono hs6).mono hs7, by rw [ei]; exact hok7⟩, ⟨by simp only; omega⟩⟩
  · have hin : ¬ i < n := by have := of_decide_eq_false hi; omega
    have ein : i = n := by omega
    subst ein
    refine (names_ok (hE3.mono hs4) (by omega)).mono ?_
    rintro _ H5 ⟨nb, nk, nc, rfl, how5, hof5, hs5⟩
    have hnk : nk ≤ i := by
      have h1 := (how5.rd (E := strE) (sz := 1) (by omega) stLen).len; have h2 := mergeL_len (namesOf l); have h3 := namesOf_len l
      omega
    refine ⟨nb, nk, nc, rfl, fun k55 hk55 => append_one tStr hk55 (E := sE) (x := ⟨#[110, 111, 98, 111, 100, 121]⟩) sLen how5 rfl (sOne _) (by simp [maxLen]; omega) (by omega) fun na nc2 H6 how6 hf6 hfr6 _ => ?_⟩
    have hs46 := hf6.sub hs5 hof5
    have hrn := how6.rd (E := strE) (sz := 1) (by omega) stLen
    have hs36 := hs4.trans hs46
    refine ⟨na, nk + 1, nc2, rfl, fun t H' => match t with | [.int _ j] => 0 ≤ j ∧ j ≤ (nk + 1 : Nat) ∧ Sub H6 H' | _ => False, fun t _ => match t with | [.int _ j] => ((nk + 1 : Nat) - j).toNat | _ => 0, ⟨by omega, by omega, Sub.refl _⟩, ?_⟩
    rintro j H7 ⟨j0, j1, hs7⟩
    have hs37 := hs36.trans hs7
    have hR7 := hR.mono (hs46.trans hs7)
    refine ⟨fun hj => ?_, fun hj => ?_⟩
    · have hj' : j < (nk + 1 : Nat) := of_decide_eq_true hj
      obtain ⟨s, hsj, hsr⟩ := (hrn.mono hs7).ex (i := j) j0 hj'
      refine ⟨hrn.ob j0 hj', s, hsr, (rOf_ok (hE3.mono hs37) (by omega) s hS.ds fun _ z hz => hS.ends i s z hz).mono ?_⟩
      rintro _ H8 ⟨f, rfl, hf⟩
      have hs8 := hf.sub
      have fob : Ob (at0 f ≠ none) := ⟨by simp [at0]⟩
      obtain ⟨any, ab, oa, k, kc, bl, hbx, hbl, hnd, hin, hcan⟩ := found_can hok hf
      have hrb := hbl.rd (E := strE) (sz := 1) (by omega) stLen
      refine ⟨at0 f, rfl, fob, fob, oa, k, kc, hbx.fld (i := 2) rfl, fun t H' => match t with | [.slice x xn xc, .int _ q] => 0 ≤ q ∧ q ≤ k ∧ Sub H8 H' ∧ RdL H' strE 1 x xn (mergeL (bl.take q.toNat)) ∧ xn ≤ xc | _ => False, fun t _ => match t with | [_, .int _ q] => (k - q).toNat | _ => 0, ⟨by omega, by omega, Sub.refl _, RdL.nil _ _ _, by omega⟩, ?_⟩
      have hkl := hrb.len
      have hk1000 : k ≤ 1000 := by
        have := nodup_len (l := bl.map fun d => ((true, d) : Fl)) (m := dsOf l) (List.pairwise_map.2 (hnd.imp fun hne e => hne (by injection e))) (fun z hz' => by
          obtain ⟨d', hd', rfl⟩ := List.mem_map.1 hz'; exact hin d' hd')
        rw [List.length_map] at this
        have := hS.ds
        omega
      rintro x xn xc q H9 ⟨q0, q1, hs9, hrx, hxc⟩
      obtain ⟨q, rfl⟩ : ∃ p : Nat, q = p := ⟨q.toNat, by omega⟩
      rw [Int.toNat_natCast] at hrx
      refine ⟨fun hq => ?_, fun hq => ?_⟩
      · have hq' : q < k := by have := of_decide_eq_true hq; omega
        have ew : IntKind.i64.wrap ((q : Int) + 1) = (q : Int) + 1 := wrap64 (by omega) (by omega)
        have ei : ((q : Int) + 1).toNat = q + 1 := by omega
        obtain ⟨d, hd, hdr⟩ := (hrb.mono hs9).ex (i := (q : Int)) (by omega) (by omega)
        rw [Int.toNat_natCast] at hd
        have hxl : xn ≤ q := by have h1 := hrx.len; have h2 := mergeL_len (bl.take q); rw [List.length_take] at h2; omega
        rw [ew]
        refine ⟨hrb.ob (by omega) (by omega), d, hdr, (add_ok hrx hxc (by omega) fun t ht => ?_).mono ?_⟩
        · have := ((mergeL_rising _).2 t).1 ht
          have := ds_size hS.d _ (hin t (List.mem_of_mem_take this))
          simp only at this; omega
        · rintro _ H10 ⟨x2, xn2, xc2, rfl, hr2, hc2, hs10, _⟩
          have en : mergeL (bl.take (q + 1)) = addL (mergeL (bl.take q)) d := by rw [List.take_add_one, hd, mergeL, List.foldl_append]; rfl
          exact ⟨x2, xn2, xc2, rfl, ⟨by omega, by omega, hs9.trans hs10, by rw [ei, en]; exact hr2, hc2⟩, ⟨by simp only; omega⟩⟩
      · have hqn : ¬ q < k := by have := of_decide_eq_false hq; omega
        rw [List.take_of_length_le (by omega)] at hrx
        obtain ⟨sl, hm9⟩ := (hR7.mono (hs8.trans hs9)).out
        refine (can_ok hT3 hm9 (hS.good i) (hS.all i) s).mono ?_
        rintro _ H10 ⟨u, vs, L, rfl, hru, hst, hcanL, _, hucap, hs10⟩
        have hL := hcanL.uniq hcan
        subst hL
        have hul := hru.len
        have hsl := hst.1
        have hxl := hrx.len
        refine ⟨u.a, u.n, u.c, rfl, fob, fob, ab, (hbx.sub (hs9.trans hs10)).fld (i := 1) rfl, fun e1 => ?_, fun e1 => ?_⟩
        · subst e1
          obtain ⟨v0, vs', rfl⟩ : ∃ v0 vs', vs = v0 :: vs' := by
            cases vs with
            | nil => simp at hsl
            | cons v0 vs' => exact ⟨v0, vs', rfl⟩
          have hv0 := hst.2 0 v0 (false, ⟨#[]⟩) rfl rfl
          have hV : StR H10 vs' ((mergeL bl).map fun t => (true, t)) := ⟨by simpa using hsl, fun z v y hv hy => hst.2 (z + 1) v y (by simpa using hv) (by simpa using hy)⟩
          have hvl : vs'.length = (mergeL bl).length := by rw [hV.1, List.length_map]
          have hu1 : u.n = vs'.length + 1 := by rw [← hul]; rfl
          have hA : RdL H10 tE 2 (slA u.a 1 u.c 2) (u.n - 1) vs' := by
            have := hru.drop (i := 1) (c := u.c) (by omega) hucap
            simpa using this
          have hr0 := hru.at (i := 0) (by omega) (x := v0) rfl
          have ob0 : Ob (u.a ≠ none ∧ (0 : Int) ≤ 0 ∧ 0 < (u.n : Int)) := hru.ob (by omega) (by omega)
          have ob1 : Ob (elemA u.a 0 2 ≠ none) := ⟨hru.elem_ne (by omega) (by omega)⟩
          have ra : Reads H10 (fldA (elemA u.a 0 2) 0) [.bool v0.p] := hr0.fld 0 fun z w hw => by
            match z, hw with
            | 0, hw => exact hw
            | z + 1, hw => simp at hw
          have rb : Reads H10 (fldA (elemA u.a 0 2) 1) [.slice v0.d.a v0.d.n v0.d.c] := hr0.fld 1 fun z w hw => by
            match z, hw with
            | 0, hw => exact hw
            | z + 1, hw => simp at hw
          have hd0 : v0.d.n = 0 := by have := hv0.2.len; rw [bytesL_len] at this; exact this.symm
          refine ⟨fun _ => ⟨ob0, ob1, v0.p, ra, fun _ => ⟨ob0, ob1, v0.d.a, v0.d.n, v0.d.c, rb, fun e => by simp [hd0] at e, fun _ => ⟨⟨by omega, by omega, by omega⟩, fun e => ?_, fun _ => ?_⟩⟩, fun e => by rw [hv0.1] at e; cases e⟩, fun e => by rw [hu1] at e; simp at e; omega⟩
          · have : (u.n : Int).toNat - Int.toNat 1 = xn := by show u.n - 1 = xn; omega
            rw [this] at e; simp at e
          · refine ⟨fun t H' => match t with | [.int _ p] => 0 ≤ p ∧ p ≤ (u.n - 1 : Nat) ∧ H' = H10 | _ => False, fun t _ => match t with | [.int _ p] => ((u.n - 1 : Nat) - p).toNat | _ => 0, ⟨by omega, by omega, rfl⟩, ?_⟩
            rintro p H11 ⟨p0, p1, e11⟩
            subst e11
            refine ⟨fun hp => ?_, fun hp => ⟨⟨by rw [wrap64 (by omega) (by omega)]; omega, by rw [wrap64 (by omega) (by omega)]; omega, ((hs7.trans hs8).trans hs9).trans hs10⟩, ⟨by rw [wrap64 (by omega) (by omega)]; simp only; omega⟩⟩⟩
            have hp' : p < (u.n - 1 : Nat) := of_decide_eq_true hp
            obtain ⟨v, hv, hvr⟩ := hA.ex (i := p) p0 hp'
            obtain ⟨tx, htx⟩ : ∃ tx, (mergeL bl)[p.toNat]? = some tx := ⟨_, List.getElem?_eq_getElem (by omega)⟩
            have hvs := hV.2 p.toNat v (true, tx) hv (by rw [List.getElem?_map, htx]; rfl)
            have htr := (hrx.mono hs10).at (i := p) p0 htx
            refine ⟨hA.ob p0 hp', v.p, v.d.a, v.d.n, v.d.c, hvr, H11, Sub.refl _, fun _ => ⟨(hrx.mono hs10).ob p0 (by omega), tx, htr, str_of hvs.2 ⟨tx, rfl, Sub.refl _, fun e => by simp [eqS_iff.2 rfl] at e, fun _ => ⟨⟨by rw [wrap64 (by omega) (by omega)]; omega, by rw [wrap64 (by omega) (by omega)]; omega, rfl⟩, ⟨by rw [wrap64 (by omega) (by omega)]; simp only; omega⟩⟩⟩⟩, fun e => by rw [hvs.1] at e; simp at e⟩
        · subst e1
          have hA := hru
          have hV : StR H10 vs ((mergeL bl).map fun t => (true, t)) := by simpa using hst
          have hvl : vs.length = (mergeL bl).length := by rw [hV.1, List.length_map]
          refine ⟨fun e => ?_, fun _ => ?_⟩
          · have : u.n = xn := by omega
            simp [this] at e
          · refine ⟨fun t H' => match t with | [.int _ p] => 0 ≤ p ∧ p ≤ (u.n : Nat) ∧ H' = H10 | _ => False, fun t _ => match t with | [.int _ p] => ((u.n : Nat) - p).toNat | _ => 0, ⟨by omega, by omega, rfl⟩, ?_⟩
            rintro p H11 ⟨p0, p1, e11⟩
            subst e11
            refine ⟨fun hp => ?_, fun hp => ⟨⟨by rw [wrap64 (by omega) (by omega)]; omega, by rw [wrap64 (by omega) (by omega)]; omega, ((hs7.trans hs8).trans hs9).trans hs10⟩, ⟨by rw [wrap64 (by omega) (by omega)]; simp only; omega⟩⟩⟩
            have hp' : p < (u.n : Nat) := of_decide_eq_true hp
            obtain ⟨v, hv, hvr⟩ := hA.ex (i := p) p0 hp'
            obtain ⟨tx, htx⟩ : ∃ tx, (mergeL bl)[p.toNat]? = some tx := ⟨_, List.getElem?_eq_getElem (by omega)⟩
            have hvs := hV.2 p.toNat v (true, tx) hv (by rw [List.getElem?_map, htx]; rfl)
            have htr := (hrx.mono hs10).at (i := p) p0 htx
            refine ⟨hA.ob p0 hp', v.p, v.d.a, v.d.n, v.d.c, hvr, H11, Sub.refl _, fun _ => ⟨(hrx.mono hs10).ob p0 (by omega), tx, htr, str_of hvs.2 ⟨tx, rfl, Sub.refl _, fun e => by simp [eqS_iff.2 rfl] at e, fun _ => ⟨⟨by rw [wrap64 (by omega) (by omega)]; omega, by rw [wrap64 (by omega) (by omega)]; omega, rfl⟩, ⟨by rw [wrap64 (by omega) (by omega)]; simp only; omega⟩⟩⟩⟩, fun e => by rw [hvs.1] at e; simp at e⟩
    · refine (take_nil H7 ⟨1, 0, 0, op0V, ⟨0, 0, z3, z3⟩⟩).mono ?_
      rintro _ _ ⟨rfl, rfl⟩
      refine ⟨false, rfl, fun _ => (can_nil _ ⟨#[97]⟩).mono ?_, fun e => by cases e⟩
      rintro _ H9 ⟨rfl, e9⟩
      refine ⟨none, 0, 0, rfl, fun _ => ali ?_, fun e => by cases e⟩
      rw [e9]; exact hs03.trans hs37
end Go.Mdl
