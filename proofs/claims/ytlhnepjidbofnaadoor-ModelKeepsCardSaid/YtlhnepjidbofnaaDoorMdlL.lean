/- A list's answer: the contract of the program's 'list'. -/
import Derived.Test.YtlhnepjidbofnaaDoorMdlK
namespace Go.Mdl
open Go.Vx Go.Vc Go.Proofs

open Classical in
theorem list_ok {T : Lib.PrintTabs} {F H : PHeap} (hT : Tabs F T) {m : Nat} {sl : SlV} {ops : List OpS} {R : Poss} (h : MapK F H m sl ops R) {ds D : List Fl} (G : Good ds D) (hR : ∀ s z, R s z → InU ds D z) (hops : ops.length ≤ 1000)
    {e size : Int} {da na : Option Addr} {dn dc nn nc : Nat} {names : List ByteArray} (hnm : RdL F strE 1 na nn names) (hnn : nn ≤ 1000) :
    Triple Tryd.prog 64 #[.pointer (at0 m), .agg #[.int .i64 e, .int .i64 size, .slice da dn dc, .slice na nn nc]] H fun v H' => ∃ b, v = .bool b ∧ (b = true ↔ okL ops R size dn names) ∧ MapK F H' m sl ops (if b = true then listR ops names R else R) := by
  have hne := MapK.ob (m := m)
  have no : ∀ {H' : PHeap}, MapK F H' m sl ops R → ¬ okL ops R size dn names → ∃ b, Value.bool false = .bool b ∧ (b = true ↔ okL ops R size dn names) ∧ MapK F H' m sl ops (if b = true then listR ops names R else R) := fun hm hn => ⟨false, rfl, ⟨fun e => (by cases e), fun h => (hn h).elim⟩, hm⟩
  refine mList.vc (at0 m) e size da dn dc na nn nc H _ ⟨H, Sub.refl H, fun e1 => ⟨fun e2 => ?_, fun e2 => no h fun hk => ?_⟩, fun e1 => no h fun hk => ?_⟩
  rotate_left
  · have := hk.dl; rw [this] at e2; simp at e2
  · have := hk.sz; rw [this] at e1; simp at e1
  have hsz : size = 0 := by simpa using e1
  have hdl : dn = 0 := by simpa using e2
  refine (isSorted_ok (hnm.mono h.sub) (by omega)).mono ?_
  rintro _ _ ⟨b1, rfl, hb1, rfl⟩
  refine ⟨b1, rfl, Sub.refl _, fun e3 => ?_, fun e3 => no h fun hk => by rw [hb1.2 hk.up] at e3; cases e3⟩
  have hup : UpS names := hb1.1 (by simpa using e3)
  refine (cloneS_ok (hnm.mono h.sub) (by omega)).mono ?_
  rintro _ H2 ⟨ca, cc, rfl, hoc, hs2, hofc⟩
  refine ⟨ca, nn, cc, rfl, hs2, (compact_ok hs2 hofc hoc (by omega)).mono ?_⟩
  rintro _ H3 ⟨cb, ck, cm, rfl, hap, hs3⟩
  have hm3 := h.mono hs3
  refine ⟨cb, ck, cm, rfl, hs3, fun e4 => no hm3 fun hk => ?_, fun e4 => ?_⟩
  · have := hap.2 hk.ap; rw [this] at e4; simp at e4
  have hapS : ApS names := hap.1 (by simp at e4; omega)
  obtain ⟨oa, n, c, vs, mr, hsl, h1, h2, h3, h4, h5⟩ := hm3.row
  have hro := h3.rd (E := oE) (sz := 5) (by omega) oLen
  have hlo := hro.len
  have hll := h4.1
  -- which names were called
  refine ⟨hne, hne, oa, n, c, h1.fld (i := 0) rfl, fun t H' => match t with | [.slice b q r, .int _ i] => 0 ≤ i ∧ i ≤ n ∧ Sub H3 H' ∧ Off H3 b ∧ ∃ cl, OwnL H' 9 strE 1 b q r cl ∧ cl.Nodup ∧ (∀ s, s ∈ cl ↔ calledS (ops.take i.toNat) s) ∧ (cl.length : Int) ≤ i | _ => False, fun t _ => match t with | [_, .int _ i] => (n - i).toNat | _ => 0,
    ⟨by omega, by omega, Sub.refl _, Off.none _, [], Owns.nil .., List.nodup_nil, fun s => by simp [calledS], by simp⟩, ?_⟩
  rintro b q r i H4 ⟨i0, i1, hs4, hof4, cl, hcl, hnd, hmem, hcli⟩
  obtain ⟨i, rfl⟩ : ∃ j : Nat, i = j := ⟨i.toNat, by omega⟩
  rw [Int.toNat_natCast] at hmem
  have hrc := hcl.rd (E := strE) (sz := 1) (by omega) stLen
  have hlc := hrc.len
  refine ⟨fun hi => ?_, fun hi => ?_⟩
  · have hi' : i < n := by simpa using hi
    have hro4 := hro.mono hs4
    obtain ⟨v, hv, hvr⟩ := hro4.ex (i := (i : Int)) (by omega) (by omega)
    rw [Int.toNat_natCast] at hv
    obtain ⟨o, ho⟩ : ∃ o, ops[i]? = some o := ⟨ops[i]'(by omega), List.getElem?_eq_getElem (by omega)⟩
    have hor := h4.2 i v o hv ho
    have ei : ((i : Int) + 1).toNat = i + 1 := by omega
    have less : Less ((n : Int) - ((i : Int) + 1)).toNat ((n : Int) - i).toNat := ⟨by omega⟩
    rw [wrap64 (n := (i : Int) + 1) (by omega) (by omega)]
    have hst : ∀ s, calledS (ops.take (i + 1)) s ↔ calledS (ops.take i) s ∨ (v.op.k ≠ 4 ∧ v.op.s = s) := fun s => by
      rw [hor.op.k, hor.op.s]
      unfold calledS
      rw [List.take_add_one, ho]
      simp only [Option.toList_some, List.mem_append, List.mem_singleton]
      constructor
      · rintro ⟨o', h | rfl, h1, h2⟩
        · exact .inl ⟨o', h, h1, h2⟩
        · exact .inr ⟨h1, h2⟩
      · rintro (⟨o', h, h1, h2⟩ | ⟨h1, h2⟩)
        · exact ⟨o', .inl h, h1, h2⟩
        · exact ⟨o, .inr rfl, h1, h2⟩
    refine ⟨hro4.ob (by omega) (by omega), v.op.k, v.op.s, v.op.a, v.op.n, v.op.c, v.began, v.over, hvr, fun e5 => (conS_ok hrc (by omega) v.op.s).mono ?_, fun e5 => ?_⟩
    · have hk4 : v.op.k ≠ 4 := by simpa using e5
      rintro _ _ ⟨b5, rfl, hb5, rfl⟩
      refine ⟨b5, rfl, fun e6 => ?_, fun e6 => ?_⟩
      · have hnew : v.op.s ∉ cl := fun hm => by rw [hb5.2 hm] at e6; cases e6
        intro k44 hk44
        refine append_one tSt (E := strE) (x := v.op.s) hk44 stLen hcl rfl (stOne _) (by simp [maxLen]; omega) (by omega) ?_
        intro b' r' H5 how hf hfr _
        refine ⟨b', q + 1, r', rfl, ⟨by omega, by omega, hf.sub hs4 hof4, hfr.off hs4 hof4, _, how, ?_, fun s => ?_, by simp; omega⟩, less⟩
        · exact List.nodup_append.2 ⟨hnd, by simp, fun a1 ha1 b1 hb1 e7 => by simp at hb1; rw [e7, hb1] at ha1; exact hnew ha1⟩
        · rw [ei, hst, List.mem_append, hmem]
          simp [hk4, eq_comm]
      · have hin : v.op.s ∈ cl := hb5.1 (by simpa using e6)
        refine ⟨⟨by omega, by omega, hs4, hof4, cl, hcl, hnd, fun s => ?_, by omega⟩, less⟩
        rw [ei, hst, hmem]
        exact ⟨.inl, fun h => h.elim id fun ⟨_, e⟩ => e ▸ (hmem _).1 hin⟩
    · have hk4 : v.op.k = 4 := by simpa using e5
      refine ⟨⟨by omega, by omega, hs4, hof4, cl, hcl, hnd, fun s => ?_, by omega⟩, less⟩
      rw [ei, hst, hmem]
      exact ⟨.inl, fun h => h.elim id fun ⟨e, _⟩ => (e hk4).elim⟩
  · have hi' : ¬ i < n := by simpa using hi
    rw [List.take_of_length_le (by omega)] at hmem
    have hm4 := hm3.mono hs4
    refine (copy_ok hm4).mono ?_
    rintro _ H5 ⟨mb', rfl, hmb', hs5, hN5⟩
    have hm5 := hm4.mono hs5
    -- from here on all but the map stays
    obtain ⟨FF, hfs, hmF, hrcF, hN⟩ : ∃ FF, Sub F FF ∧ MapK FF H5 m sl ops R ∧ RdL FF strE 1 b q cl ∧ NamesR F FF (some mb') R := by
      refine ⟨froz F H5 mb', froz_sup hm5.sub, hm4.froz hs5 hmb', (hrc.mono hs5).part fun a o ha ho => ?_, hN5.keep froz_ty fun mb e o ho => ?_⟩
      · obtain ⟨c1, r1, hc1⟩ := own_ty hcl a ha
        have := hs5.le _ _ hc1
        rw [this] at ho; cases ho
        exact froz_at this
      · cases e; unfold froz; rw [if_pos rfl]; exact ho
    refine ⟨some mb', rfl, fun t H' => match t with | [.int _ j] => 0 ≤ j ∧ j ≤ nn ∧ H' = H5 ∧ ∀ s ∈ names.take j.toNat, calledS ops s | _ => False, fun t _ => match t with | [.int _ j] => (nn - j).toNat | _ => 0, ⟨by omega, by omega, rfl, by simp⟩, ?_⟩
    rintro j _ ⟨j0, j1, rfl, hall⟩
    obtain ⟨j, rfl⟩ : ∃ p : Nat, j = p := ⟨j.toNat, by omega⟩
    rw [Int.toNat_natCast] at hall
    have hnl := hnm.len
    have hnm5 := hnm.mono hm5.sub
    have hrc5 := hrc.mono hs5
    refine ⟨fun hj => ?_, fun hj => ?_⟩
    · have hj' : j < nn := by simpa using hj
      obtain ⟨s, hs, hsr⟩ := hnm5.ex (i := (j : Int)) (by omega) (by omega)
      rw [Int.toNat_natCast] at hs
      refine ⟨hnm5.ob (by omega) (by omega), s, hsr, (conS_ok hrc5 (by omega) s).mono ?_⟩
      rintro _ _ ⟨b6, rfl, hb6, rfl⟩
      refine ⟨b6, rfl, fun e6 => no hm5 fun hk => ?_, fun e6 => ?_⟩
      · rw [hb6.2 ((hmem s).2 (hk.called s (List.mem_of_getElem? hs)))] at e6; cases e6
      · rw [wrap64 (by omega) (by omega)]
        refine ⟨⟨by omega, by omega, rfl, fun t ht => ?_⟩, ⟨by simp only; omega⟩⟩
        rw [show ((j : Int) + 1).toNat = j + 1 by omega, List.take_add_one, hs] at ht
        rcases List.mem_append.1 ht with h | h
        · exact hall t h
        · simp at h; subst h; exact (hmem t).1 (hb6.1 (by simpa using e6))
    · have hj' : ¬ j < nn := by simpa using hj
      rw [List.take_of_length_le (by omega)] at hall
      refine ⟨fun t H' => match t with | [.int _ i] => 0 ≤ i ∧ i ≤ q ∧ MapK FF H' m sl ops (fun s z => (s ∈ cl.take i.toNat ∧ keepR (fS names s) (R s) z) ∨ (s ∉ cl.take i.toNat ∧ R s z)) ∧ ∀ s ∈ cl.take i.toNat, ∃ y, R s y ∧ (fS names s y).isSome | _ => False, fun t _ => match t with | [.int _ i] => (q - i).toNat | _ => 0, ⟨by omega, by omega, hmF.congr fun s z => by simp, by simp⟩, ?_⟩
      rintro p H6 ⟨p0, p1, hm6, hsome⟩
      obtain ⟨p, rfl⟩ : ∃ x : Nat, p = x := ⟨p.toNat, by omega⟩
      rw [Int.toNat_natCast] at hm6 hsome
      have hrc6 := hrcF.mono hm6.sub
      refine ⟨fun hp => ?_, fun hp => ?_⟩
      · have hp' : p < q := by simpa using hp
        obtain ⟨s, hs, hsr⟩ := hrc6.ex (i := (p : Int)) (by omega) (by omega)
        rw [Int.toNat_natCast] at hs
        have hsnew : s ∉ cl.take p := fun hm => by
          obtain ⟨p', hp1⟩ := List.mem_iff_getElem?.1 hm
          rw [List.getElem?_take] at hp1
          split at hp1
          · have := nodup_at hnd hp1 hs; omega
          · cases hp1
        refine ⟨hrc6.ob (by omega) (by omega), s, hsr, (conS_ok (hnm.mono (hfs.trans hm6.sub)) (by omega) s).mono ?_⟩
        rintro _ _ ⟨b7, rfl, hb7, rfl⟩
        have hspec : ∀ A : PHeap, FnSpec A (bif b7 then Value.func (.func 40) #[] #[] else Value.func (.func 41) #[] #[]) (fS names s) := fun A => by
          unfold fS
          cases hb : b7 with
          | true => rw [if_pos (hb7.1 hb)]; exact there_sp _
          | false => rw [if_neg fun hm => by rw [hb7.2 hm] at hb; cases hb]; exact none_sp _
        have hR6 : ∀ t z, ((t ∈ cl.take p ∧ keepR (fS names t) (R t) z) ∨ (t ∉ cl.take p ∧ R t z)) → InU ds D z := fun t z h => h.elim (fun h => kept_in G (hR t) (fS_self names t) h.2) fun h => hR t z h.2
        refine ⟨b7, rfl, (keep_ok (hT.mono (hfs.trans hm6.sub)) hm6 G hR6 s (hspec _)).mono ?_⟩
        rintro _ H7 ⟨b8, rfl, hb8, hm7⟩
        have hex : (∃ y, ((s ∈ cl.take p ∧ keepR (fS names s) (R s) y) ∨ (s ∉ cl.take p ∧ R s y)) ∧ (fS names s y).isSome) ↔ ∃ y, R s y ∧ (fS names s y).isSome :=
          ⟨fun ⟨y, h, h1⟩ => ⟨y, h.elim (fun h => (hsnew h.1).elim) fun h => h.2, h1⟩, fun ⟨y, h, h1⟩ => ⟨y, .inr ⟨hsnew, h⟩, h1⟩⟩
        rw [hex] at hb8
        refine ⟨b8, rfl, fun e8 => ?_, fun e8 => ?_⟩
        · -- as it was
          have e9 : b8 = false := by simpa using e8
          rw [e9, if_neg (by simp)] at hm7
          obtain ⟨oa7, n7, c7, vs7, mr7, hsl7, w1, w2, w3, w4, w5⟩ := hm7.row
          refine ⟨hne, hne, _, w1.put (i := 1) (by simp), no ?_ fun hk => ?_⟩
          · have hs78 : TyK H7 (H7.upd m (.cells ([Value.slice oa7 n7 c7, Value.map mr7].set 1 (.map (some mb'))).toArray 37 (0, 0))) := .upd fun c t r hk => by
              unfold Bx at w1; rw [w1] at hk; injection hk with e; injection e with _ e _; subst e; unfold typ; decide
            have hfm : FF m = none := hm7.o
            refine ⟨Bx.sub_of (hfs.trans hm7.sub) h.o, h.o, oa7, n7, c7, vs7, some mb', hsl7, Bx.new .., w2.sub hfs, w3.mono fun a o ha ho => ?_, w4.keep hs78, (hN.keep (TyK.sub hm7.sub) fun mb e o ho => hm7.sub.le _ _ ho).keep hs78 fun mb e o ho => ?_⟩
            · rw [upd_ne _ _ fun e => ?_]
              · exact ho
              · obtain ⟨c1, r1, hc1⟩ := own_ty w3 a ha
                unfold Bx at w1
                rw [e, w1] at hc1; injection hc1 with e; injection e with _ e _; cases e
            · rw [upd_ne _ _ fun e => ?_]
              · exact ho
              · unfold Bx at w1
                obtain ⟨ml, f, g1, _⟩ := hN.out
                cases ‹some mb' = some mb›
                obtain ⟨es, ck, hq, _⟩ := (g1 mb' rfl).2.out
                have := hm7.sub.le _ _ hq
                rw [e, w1] at this; cases this
          · have := hb8.2 (hk.some s ((hmem s).1 (List.mem_of_getElem? hs)))
            rw [e9] at this; cases this
        · have e9 : b8 = true := by simpa using e8
          rw [e9, if_pos rfl] at hm7
          rw [wrap64 (by omega) (by omega)]
          have et : ((p : Int) + 1).toNat = p + 1 := by omega
          refine ⟨⟨by omega, by omega, hm7.congr fun t z => ?_, fun t ht => ?_⟩, ⟨by simp only; omega⟩⟩
          · rw [et, List.take_add_one, hs]
            unfold setR keepR
            simp only [Option.toList_some, List.mem_append, List.mem_singleton]
            by_cases e : t = s
            · subst e
              simp [hsnew]
            · simp [e]
          · rw [et, List.take_add_one, hs] at ht
            rcases List.mem_append.1 ht with h | h
            · exact hsome t h
            · simp at h; subst h; exact hb8.1 e9
      · have hp' : ¬ p < q := by simpa using hp
        rw [List.take_of_length_le (by omega)] at hm6 hsome
        refine ⟨true, rfl, ⟨fun _ => ⟨hsz, hdl, hup, hapS, hall, fun s hs => hsome s ((hmem s).2 hs)⟩, fun _ => rfl⟩, ?_⟩
        rw [if_pos rfl]
        refine (hm6.weaken hfs).congr fun s z => ?_
        unfold listR
        rw [hmem]
end Go.Mdl
