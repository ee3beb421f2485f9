/- The document's model: the contract of 'order'. -/
import Derived.Test.YtlhnepjidbofnaaGreatDoorMdlY
namespace Go.Mdl
open Go.Vx Go.Vc Go.Proofs Go.Txt

theorem order_ok {H : PHeap} {a : Option Addr} {n c : Nat} {ops : List OpS} (h : OpL H a n ops) (hn : n ≤ 1000) (hds : ∀ o ∈ ops, o.op.d.size ≤ 1000000) {ev : EvW} {e : EvX} (he : EvR H ev e) (hsz : ∀ s ∈ e.an.names, s.size ≤ 1000000) :
    Triple Tryz.prog 29 #[.slice a n c, .agg (evE ev).toArray] H fun v H' => ∃ (u : SlV) (b : Bool), v = .tuple #[slV u, .bool b] ∧ (b = true ↔ orderP ops e) ∧ Sub H H' ∧ (b = true → OpL H' u.a u.n (stepOps ops e)) := by
  have hk := he.kind
  have hid := he.id
  have hln := h.len
  obtain ⟨vs, hr, hw⟩ := h.out
  have hvl := hr.len
  have no : ∀ (u : SlV), ¬ orderP ops e → ∃ (u' : SlV) (b : Bool), Value.tuple #[slV u, .bool false] = .tuple #[slV u', .bool b] ∧ (b = true ↔ orderP ops e) ∧ Sub H H ∧ (b = true → OpL H u'.a u'.n (stepOps ops e)) := fun u hn' => ⟨u, false, rfl, ⟨fun e => by (cases e), fun h => (hn' h).elim⟩, Sub.refl _, fun e => by cases e⟩
  refine rOrder.vc a n c ev.kind ev.id ev.ballot ev.op.k ev.op.s ev.op.a ev.op.n ev.op.c ev.an.e ev.an.size ev.an.d.a ev.an.d.n ev.an.d.c ev.an.n.a ev.an.n.n ev.an.n.c H _ ⟨fun e1 => ⟨H, Sub.refl _, fun k21 hk21 => ⟨Sub.upd _ hk21, copyOps hr (by omega) hk21 fun a2 c2 H2 how2 hs2 hof2 => ⟨a2, n, c2, rfl, hs2, fun k27 hk27 => ⟨hs2.trans (Sub.upd _ hk27), ?_⟩⟩⟩⟩, fun e1 => ⟨fun e2 => ⟨fun e3 => ?_, fun e3 => no ⟨a, n, c⟩ fun ho => ?_⟩, fun e2 => no ⟨a, n, c⟩ fun ho => ?_⟩⟩
  · have k1 : e.kind = 1 := by rw [← hk]; simpa using e1
    refine append_one tOpR (E := oE) (x := ⟨⟨ev.op.k, ev.op.s, ev.op.a, ev.op.n, ev.op.c⟩, false, false⟩) hk27 oLen how2 rfl (oOne _) (by simp [maxLen]; omega) (by omega) ?_
    intro a3 c3 H3 how3 hf3 hfr3 _
    have hs3 := hf3.sub hs2 hof2
    refine ⟨a3, n + 1, c3, rfl, hs3, ⟨a3, n + 1, c3⟩, _, rfl, ?_, hs3, fun _ => ⟨_, how3.rd (by omega) oLen, ?_⟩⟩
    · rw [hid, ← hln]
      unfold orderP
      constructor
      · intro h; exact .inl ⟨k1, by simpa using h⟩
      · rintro (⟨_, h⟩ | ⟨h, _⟩)
        · simpa using h
        · exact (h k1).elim
    · unfold stepOps
      rw [if_pos k1]
      refine ⟨by simp [hw.1], fun i v x hv hx => ?_⟩
      by_cases hi : i < vs.length
      · rw [List.getElem?_append_left hi] at hv
        rw [List.getElem?_append_left (by omega)] at hx
        exact (hw.mono hs3).2 i v x hv hx
      · rw [List.getElem?_append_right (by omega)] at hv
        rw [List.getElem?_append_right (by omega)] at hx
        have hi1 := (List.getElem?_eq_some_iff.1 hv).1
        simp only [List.length_singleton] at hi1
        have ei : i = vs.length := by omega
        subst ei
        rw [hw.1] at hv hx
        simp at hv hx
        subst hv hx
        exact ⟨⟨he.op.k, he.op.s, he.op.d.mono hs3⟩, rfl, rfl⟩
  · have k1 : e.kind ≠ 1 := by rw [← hk]; simpa using e1
    have hlo : 0 ≤ ev.id := by have := of_decide_eq_false e2; omega
    have hhi : ev.id < n := by have := of_decide_eq_false e3; omega
    obtain ⟨i, hi⟩ : ∃ i : Nat, ev.id = i := ⟨ev.id.toNat, by omega⟩
    have hei : e.id = i := by rw [← hid, hi]
    rw [hi] at hhi ⊢
    have ho : ops[i]? = some ops[i] := List.getElem?_eq_getElem (by omega)
    obtain ⟨v0, hv0, hr0, hob, hen⟩ := h.at ho
    have hoP := orderP_at k1 hei ho
    generalize ops[i] = o at ho hv0 hoP
    have hf0 := rd_k hr0
    refine ⟨hob, hen, v0.over, hf0.2.2.2.2, fun e4 => no ⟨a, n, c⟩ fun hp => ?_, fun e4 k34 hk34 => copyOps hr (by omega) hk34 fun a2 c2 H2 how2 hs2 hof2 => ?_⟩
    · rw [hoP, ← hv0.over, e4] at hp; cases hp.1
    have hov : o.over = false := by rw [← hv0.over]; exact e4
    have hr2 := how2.rd (E := oE) (sz := 5) (by omega) oLen
    obtain ⟨v, hv, hvr⟩ := hr2.ex (i := (i : Int)) (by omega) (by omega)
    rw [Int.toNat_natCast] at hv
    have hvo := (hw.mono hs2).2 i v o hv ho
    have hvov : v.over = false := by rw [hvo.over]; exact hov
    have hob2 := hr2.ob (i := (i : Int)) (by omega) (by omega)
    have hx2 := he.an.mono hs2
    have hop2 := he.op.mono hs2
    have hds' := hds o (List.mem_of_getElem? ho)
    have no2 : ∀ (u : SlV) {H' : PHeap}, Sub H H' → ¬ orderP ops e → ∃ (u' : SlV) (b : Bool), Value.tuple #[slV u, .bool false] = .tuple #[slV u', .bool b] ∧ (b = true ↔ orderP ops e) ∧ Sub H H' ∧ (b = true → OpL H' u'.a u'.n (stepOps ops e)) := fun u H' hs hn' => ⟨u, false, rfl, ⟨fun e => by (cases e), fun h => (hn' h).elim⟩, hs, fun e => by cases e⟩
    -- what is written, is written into the copy
    have wr : ∀ {v' : OsV} {g : OpS → OpS} {b : Bool}, (∀ {H' : PHeap} o', OsW H' v o' → OsW H' v' (g o')) → (b = true → stepOps ops e = ops.modify i g) → (b = true ↔ orderP ops e) → ∃ H9, Writes H2 H9 (elemA a2 (i : Int) 5) (oE v') ∧ ∃ (u : SlV) (b' : Bool), Value.tuple #[.slice a2 n c2, .bool b] = .tuple #[slV u, .bool b'] ∧ (b' = true ↔ orderP ops e) ∧ Sub H H9 ∧ (b' = true → OpL H9 u.a u.n (stepOps ops e)) := fun {v' g b} hg hst hb => by
      obtain ⟨H9, hw9, how9, hf9⟩ := Owns.set oLen how2 (by omega) (i := (i : Int)) (by omega) (by omega) v'
      rw [Int.toNat_natCast] at how9
      have hs9 := hf9.sub hs2 hof2
      exact ⟨H9, hw9, ⟨a2, n, c2⟩, b, rfl, hb, hs9, fun e => by rw [hst e]; exact ⟨_, how9.rd (by omega) oLen, opsW_set (hw.mono hs9) hv fun o' ho' => hg o' ho'⟩⟩
    have hb3 : (∀ {H' : PHeap} o', OsW H' v o' → OsW H' (⟨v.op, v.began, true⟩ : OsV) (overS o')) := fun o' ho' => ⟨ho'.op, ho'.began, rfl⟩
    have hst3 : e.kind ≠ 2 → stepOps ops e = ops.modify i overS := fun k2 => by unfold stepOps; rw [if_neg k1, if_neg k2, hei, Int.toNat_natCast]
    refine ⟨a2, n, c2, rfl, hob2, v.op.k, v.op.s, v.op.a, v.op.n, v.op.c, v.began, v.over, hvr, fun e5 => ?_, fun e5 => ⟨fun e6 => ⟨H2, Sub.refl _, ?_⟩, fun e6 => ⟨fun e7 => ⟨hob2, ?_⟩, fun e7 => no2 ⟨a, n, c⟩ hs2 fun hp => ?_⟩⟩⟩
    · -- it begins
      have k2 : e.kind = 2 := by rw [← hk]; simpa using e5
      have hoP2 : orderP ops e ↔ o.began = false ∧ ¬ busyX ops ∧ o.op = e.op ∧ checkX e.op = 0 := by rw [hoP]; simp [hov, k2]
      refine ⟨fun t H' => match t with | [.int _ j] => 0 ≤ j ∧ j ≤ n ∧ H' = H2 ∧ ∀ o ∈ ops.take j.toNat, ¬ (o.began = true ∧ o.over = false) | _ => False, fun t _ => match t with | [.int _ j] => (n - j).toNat | _ => 0, ⟨by omega, by omega, rfl, by simp⟩, ?_⟩
      rintro j _ ⟨j0, j1, rfl, hno⟩
      obtain ⟨j, rfl⟩ : ∃ p : Nat, j = p := ⟨j.toNat, by omega⟩
      rw [Int.toNat_natCast] at hno
      have h2 := h.mono hs2
      refine ⟨fun hj => ?_, fun hj => ?_⟩
      · have hj' : j < n := by simpa using hj
        have hoj : ops[j]? = some ops[j] := List.getElem?_eq_getElem (by omega)
        obtain ⟨w, hwj, hrj, hobj, henj⟩ := h2.at hoj
        have hfj := rd_k hrj
        have ew : IntKind.i64.wrap ((j : Int) + 1) = (j : Int) + 1 := wrap64 (by omega) (by omega)
        rw [ew]
        have nx : ¬ (ops[j].began = true ∧ ops[j].over = false) → ∀ o ∈ ops.take ((j : Int) + 1).toNat, ¬ (o.began = true ∧ o.over = false) := fun hb o' ho' => by
          rw [show ((j : Int) + 1).toNat = j + 1 by omega, List.take_add_one, hoj] at ho'
          rcases List.mem_append.1 ho' with h | h
          · exact hno o' h
          · simp at h; rw [h]; exact hb
        refine ⟨hobj, henj, w.began, hfj.2.2.2.1, fun e8 => ⟨hobj, henj, w.over, hfj.2.2.2.2, fun e9 => no2 ⟨a, n, c⟩ hs2 fun hp => ?_, fun e9 => ⟨⟨by omega, by omega, rfl, nx fun hb => ?_⟩, ⟨by simp only; omega⟩⟩⟩, fun e8 => ⟨⟨by omega, by omega, rfl, nx fun hb => ?_⟩, ⟨by simp only; omega⟩⟩⟩
        · rw [hoP2] at hp
          exact hp.2.1 ⟨ops[j], List.mem_of_getElem? hoj, by rw [← hwj.began]; exact e8, by rw [← hwj.over]; simpa using e9⟩
        · rw [← hwj.over] at hb; rw [hb.2] at e9; simp at e9
        · rw [← hwj.began] at hb; rw [hb.1] at e8; simp at e8
      · have hj' : ¬ j < n := by simpa using hj
        rw [List.take_of_length_le (by omega)] at hno
        have hnb : ¬ busyX ops := fun ⟨o', ho', hb⟩ => hno o' ho' hb
        have hst : stepOps ops e = ops.modify i beginS := by unfold stepOps; rw [if_neg k1, if_pos k2, hei, Int.toNat_natCast]
        have hb2 : (∀ {H' : PHeap} o', OsW H' v o' → OsW H' (⟨v.op, true, v.over⟩ : OsV) (beginS o')) := fun o' ho' => ⟨ho'.op, rfl, ho'.over⟩
        refine ⟨fun e8 => (rsameOp_ok hvo.op hop2 hds').mono ?_, fun e8 => ⟨hob2, ?_⟩⟩
        · have hbe : o.began = false := by rw [← hvo.began]; simpa using e8
          rintro _ _ ⟨r, rfl, hrr, rfl⟩
          refine ⟨r, rfl, fun e9 => (rcheck_ok v.op o.op hvo.op).mono ?_, fun e9 => ⟨hob2, ?_⟩⟩
          · rintro _ _ ⟨rfl, rfl⟩
            refine ⟨_, rfl, hob2, wr hb2 (fun _ => hst) ?_⟩
            rw [hoP2, ← hrr.1 e9]
            simp [hbe, hnb]
          · refine wr hb2 (fun e => by cases e) ?_
            rw [hoP2]; simp only [Bool.false_eq_true, false_iff]
            intro hp; rw [hrr.2 hp.2.2.1] at e9; cases e9
        · refine wr hb2 (fun e => by cases e) ?_
          rw [hoP2, ← hvo.began]; simp only [Bool.false_eq_true, false_iff]
          intro hp; rw [hp.1] at e8; simp at e8
    · -- it is answered
      have k2 : e.kind ≠ 2 := by rw [← hk]; simpa using e5
      have k3 : e.kind = 3 := by rw [← hk]; simpa using e6
      have hoP3 : orderP ops e ↔ ansP ops o e.an := by rw [hoP]; simp [hov, k3]
      have hsO := hst3 k2
      have hee := he.an.e
      refine ⟨fun e7 => ?_, fun e7 => ⟨fun e8 => ⟨fun e9 => (rcheck_ok v.op o.op hvo.op).mono ?_, fun e9 => ⟨hob2, ?_⟩⟩, fun e8 => ?_⟩⟩
      · have hbe : o.began = true := by rw [← hvo.began]; exact e7
        have hoF : orderP ops e ↔ formP ops o.op e.an := by rw [hoP3]; unfold ansP; simp [hbe]
        refine (form_ok (h.mono hs2) (by omega) hvo.op hx2 he.small hsz).mono ?_
        rintro _ _ ⟨b, rfl, hb, rfl⟩
        refine ⟨b, rfl, Sub.refl _, fun e8 => ⟨fun e9 => by rw [e7] at e9; simp at e9, fun e9 => ⟨hob2, ?_⟩⟩, fun e8 => ⟨hob2, ?_⟩⟩
        · refine wr hb3 (fun e => by cases e) ?_
          rw [hoF, ← hb, e8]
        · refine wr hb3 (fun _ => hsO) ?_
          rw [hoF, ← hb]; simpa using e8
      · have hbe : o.began = false := by rw [← hvo.began]; simpa using e7
        have hoN : orderP ops e ↔ e.an.e ≠ 0 ∧ e.an.e = checkX o.op ∧ plainX e.an := by rw [hoP3]; unfold ansP; simp [hbe]
        have x0 : e.an.e ≠ 0 := by rw [← hee]; simpa using e9
        rintro _ _ ⟨rfl, rfl⟩
        refine ⟨_, rfl, Sub.refl _, fun e10 => (rplain_ok hx2).mono ?_, fun e10 => ⟨hob2, ?_⟩⟩
        · have xe : e.an.e = checkX o.op := by rw [← hee]; simpa using e10
          rintro _ _ ⟨b, rfl, hb, rfl⟩
          refine ⟨b, rfl, hob2, wr hb3 (fun _ => hsO) ?_⟩
          rw [hoN, hb]; exact ⟨fun h => ⟨x0, xe, h⟩, fun h => h.2.2⟩
        · refine wr hb3 (fun e => by cases e) ?_
          rw [hoN]; simp only [Bool.false_eq_true, false_iff]
          intro hp; rw [hee, hp.2.1] at e10; simp at e10
      · have hbe : o.began = false := by rw [← hvo.began]; simpa using e7
        have hoN : orderP ops e ↔ e.an.e ≠ 0 ∧ e.an.e = checkX o.op ∧ plainX e.an := by rw [hoP3]; unfold ansP; simp [hbe]
        refine wr hb3 (fun e => by cases e) ?_
        rw [hoN]; simp only [Bool.false_eq_true, false_iff]
        intro hp; rw [hee] at e9; exact hp.1 (by simpa using e9)
      · have : v.began = false := by simpa using e7
        rw [this] at e8; simp at e8
    · have k2 : e.kind ≠ 2 := by rw [← hk]; simpa using e5
      have k4 : e.kind = 4 := by rw [← hk]; simpa using e7
      refine wr hb3 (fun _ => hst3 k2) ?_
      rw [hoP]; simp [hov, k4]
    · have k2 : e.kind ≠ 2 := by rw [← hk]; simpa using e5
      have k3 : e.kind ≠ 3 := by rw [← hk]; simpa using e6
      have k4 : e.kind ≠ 4 := by rw [← hk]; simpa using e7
      rw [hoP] at hp
      rcases hp.2 with h | h | h
      · exact k2 h.1
      · exact k3 h.1
      · exact k4 h
  · have k1 : e.kind ≠ 1 := by rw [← hk]; simpa using e1
    have hhi : (n : Int) ≤ ev.id := by have e3' : decide (ev.id ≥ (n : Int)) = true := by simpa using e3
                                       exact of_decide_eq_true e3'
    rcases ho with ⟨hk1, _⟩ | ⟨_, _, o, ho, _⟩
    · exact k1 hk1
    · have := (List.getElem?_eq_some_iff.1 ho).1
      omega
  · have k1 : e.kind ≠ 1 := by rw [← hk]; simpa using e1
    have hlo : ev.id < 0 := by have e2' : decide (ev.id < 0) = true := by simpa using e2
                               exact of_decide_eq_true e2'
    rcases ho with ⟨hk1, _⟩ | ⟨_, h0, _⟩
    · exact k1 hk1
    · omega
end Go.Mdl
