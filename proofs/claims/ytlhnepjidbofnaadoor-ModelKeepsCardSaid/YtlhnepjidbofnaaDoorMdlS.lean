/- An event is taken: the contract of Take. -/
import Derived.Test.YtlhnepjidbofnaaDoorMdlO
namespace Go.Mdl
open Go.Vx Go.Vc Go.Proofs

/-- A part of an operation is written. -/
theorem op_put {H : PHeap} {a : Option Addr} {n c : Nat} {vs : List OsV} (how : OwnL H 49 oE 5 a n c vs) {i : Nat} (hi : i < n) {v v' : OsV} (hv : vs[i]? = some v) {p : Nat} {u : Value} (he : oE v' = (oE v).take p ++ [u] ++ (oE v).drop (p + 1)) (hp : p < 5) :
    ∃ H', Writes H H' (fldA (elemA a (i : Int) 5) p) [u] ∧ OwnL H' 49 oE 5 a n c (vs.set i v') ∧ Vx.Frame a H H' := by
  obtain ⟨H', hw, how', hf⟩ := Owns.set oLen how (by omega) (i := (i : Int)) (by omega) (by omega) v'
  rw [Int.toNat_natCast] at how'
  have hrd := (how.rd (E := oE) (sz := 5) (by omega) oLen).at (i := (i : Int)) (by omega) (x := v) (by simpa using hv)
  have e2 : oE v = (oE v).take p ++ [(oE v)[p]'(by rw [oLen]; exact hp)] ++ (oE v).drop (p + 1) := by simp
  rw [e2] at hrd
  rw [he] at hw
  have hl : ((oE v).take p).length = p := by rw [List.length_take, oLen]; omega
  have := hw.part hrd rfl
  rw [hl] at this
  exact ⟨H', this, how', hf⟩
section
variable {T : Lib.PrintTabs} {F H : PHeap} {m : Nat} {sl : SlV} {ops : List OpS} {R : Poss} {ds D : List Fl}
theorem own_tyk {H H' : PHeap} {a : Option Addr} {n c : Nat} {vs : List OsV} (how : OwnL H 49 oE 5 a n c vs) (hf : Vx.Frame a H H') : TyK H H' := fun b c t r ht hk => hf _ _ hk fun a' ha e => by
  obtain ⟨c2, r2, h2⟩ := own_ty how a' ha
  rw [e, h2] at hk; injection hk with e; injection e with _ e _
  subst e; revert ht; unfold typ; decide
theorem MapK.put {H' : PHeap} (h : MapK F H m sl ops R) {vs vs' : List OsV} {ops' : List OpS} (how : OwnL H 49 oE 5 sl.a sl.n sl.c vs) (ho : OpsR H vs ops) (hf : Vx.Frame sl.a H H') (how' : OwnL H' 49 oE 5 sl.a sl.n sl.c vs') (hr : OpsR H' vs ops → OpsR H' vs' ops') : MapK F H' m sl ops' R := by
  have hk := own_tyk how hf
  obtain ⟨oa, n, c, vs0, mr, rfl, h1, h2, h3, h4, h5⟩ := h.row
  obtain ⟨ml, f, g1, g2⟩ := h5.out
  refine ⟨hf.sub h.sub h2, h.o, oa, n, c, vs', mr, rfl, hf.bx h1 fun a ha e => ?_, h2, how', hr (ho.keep hk), h5.keep hk fun mb e o ho => hf _ _ ho fun a ha e1 => ?_⟩
  · obtain ⟨c2, r2, q2⟩ := own_ty h3 a ha
    unfold Bx at h1; rw [e, h1] at q2; injection q2 with e; injection e with _ e _; cases e
  · obtain ⟨c2, r2, q2⟩ := own_ty h3 a ha
    obtain ⟨es, ck, q, _⟩ := (g1 mb e).2.out
    rw [e1] at q; rw [q] at q2; cases q2
theorem ops_set {vs : List OsV} (h : OpsR H vs ops) {i : Nat} {v v' : OsV} {g : OpS → OpS} (hv : vs[i]? = some v) (hg : ∀ o, OsR H v o → OsR H v' (g o)) : OpsR H (vs.set i v') (ops.modify i g) := by
  refine ⟨by simp [h.1], fun j u o hu ho => ?_⟩
  rw [List.getElem?_modify] at ho
  by_cases e : i = j
  · subst e
    have hlt := (List.getElem?_eq_some_iff.1 hv).1
    rw [List.getElem?_set_self hlt] at hu
    cases hu
    cases ho' : ops[i]? with
    | none => rw [ho'] at ho; simp at ho
    | some o' => rw [ho'] at ho; simp at ho; subst ho; exact hg o' (h.2 i v o' hv ho')
  · rw [List.getElem?_set_ne e] at hu
    simp only [if_neg e] at ho
    exact h.2 j u o hu (by simpa using ho)
theorem modify_id {i : Nat} {o : OpS} {g : OpS → OpS} (ho : ops[i]? = some o) (hg : g o = o) : ops.modify i g = ops := by
  refine List.ext_getElem? fun j => ?_
  rw [List.getElem?_modify]
  by_cases e : i = j
  · subst e; rw [ho]; simp [hg]
  · simp [e]
theorem stepP_at {e : EvX} {i : Nat} {o : OpS} (hk : e.kind ≠ 1) (hi : e.id = i) (ho : ops[i]? = some o) : stepP ops R e ↔ o.over = false ∧ ((e.kind = 2 ∧ o.began = false ∧ ¬ busyX ops ∧ o.op = e.op ∧ checkX e.op = 0) ∨ (e.kind = 3 ∧ answeredP ops R o e.an) ∨ e.kind = 4) := by
  unfold stepP
  rw [hi, Int.toNat_natCast, ho]
  constructor
  · rintro (⟨h, _⟩ | ⟨_, _, o', ho', h⟩)
    · exact (hk h).elim
    · cases ho'; exact h
  · intro h
    exact .inr ⟨hk, by omega, o, rfl, h⟩
theorem tB : ElemT Tryd.prog 23 5 1 1 := .of (by kernel_rfl)
theorem cloneB_ok {a : Option Addr} {n c : Nat} {d : ByteArray} (h : RdL H bE 1 a n (bytesL d)) (hn : n ≤ 100000) :
    Triple Tryd.prog 11 #[.slice a n c] H fun v H' => ∃ b k, v = .slice b n k ∧ BL H' b n d ∧ Sub H H' := by
  refine (clone_tr tB bLen bOne (sCloneB.vc a n c) h (by simp [maxLen]; omega) (by omega)).mono ?_
  rintro _ H' ⟨b, k, rfl, ho, hs, _⟩
  exact ⟨b, k, rfl, ⟨ho.rd (by omega) bLen, own_ty ho⟩, hs⟩
/-- What a taken event leaves. -/
def Took (F H' : PHeap) (m : Nat) (ops : List OpS) (R : Poss) (e : EvX) (v : Value) : Prop :=
  ∃ b, v = .bool b ∧ (b = true ↔ stepP ops R e) ∧ ∃ sl', MapK F H' m sl' (if b = true then stepOps ops e else ops) (if b = true then stepR ops R e else R)
theorem took_no {H' : PHeap} {e : EvX} (hm : MapK F H' m sl ops R) (hn : ¬ stepP ops R e) : Took F H' m ops R e (.bool false) := ⟨false, rfl, ⟨fun e => (by cases e), fun h => (hn h).elim⟩, sl, hm⟩
theorem take_ok (hT : Tabs F T) (h : MapK F H m sl ops R) (G : Good ds D) (hR : InAll ds D R) (hops : ops.length ≤ 500) {ev : EvW} {e : EvX} (he : EvR F ev e) (hdl : e.op.d.size ≤ 100000) :
    Triple Tryd.prog 6 #[.pointer (at0 m), .agg (evE ev).toArray] H fun v H' => Took F H' m ops R e v := by
  have hk := he.kind
  have hid := he.id
  have hx := MapK.ob (m := m)
  have hop := he.op.mono h.sub
  have hdn := bw_len he.op.d
  obtain ⟨oa, n, c, vs, mr, rfl, h1, h2, h3, h4, h5⟩ := h.row
  have hl := h3.rd (E := oE) (sz := 5) (by omega) oLen
  have hln := hl.len
  have hll := h4.1
  have rd0 := h1.fld (i := 0) rfl
  refine mTake.vc (at0 m) ev.kind ev.id ev.ballot ev.op.k ev.op.s ev.op.a ev.op.n ev.op.c ev.an.e ev.an.size ev.an.d.a ev.an.d.n ev.an.d.c ev.an.n.a ev.an.n.n ev.an.n.c H _ ⟨fun e0 => by simp [at0] at e0, fun _ => ⟨fun e1 => ⟨H, Sub.refl _, hx, hx, oa, n, c, rd0, fun e2 => ?_, fun e2 => ?_⟩, fun e1 => ⟨H, Sub.refl _, fun e2 => ⟨hx, hx, oa, n, c, rd0, fun e3 => ?_, fun e3 => ?_⟩, fun e2 => ?_⟩⟩⟩
  · -- another number
    have k1 : e.kind = 1 := by rw [← hk]; simpa using e1
    refine took_no h fun hs => ?_
    rcases hs with ⟨_, h2⟩ | ⟨h2, _⟩
    · rw [hid, h2, ← hll, hln] at e2; simp at e2
    · exact h2 k1
  · -- called
    have k1 : e.kind = 1 := by rw [← hk]; simpa using e1
    have i1 : e.id = ops.length := by rw [← hid, ← hll, hln]; simpa using e2
    refine (cloneB_ok hop.d (by omega)).mono ?_
    rintro _ H2 ⟨b, q, rfl, hb, hs2⟩
    refine ⟨b, ev.op.n, q, rfl, H2, Sub.refl _, hx, hx, oa, n, c, (h1.sub hs2).fld (i := 0) rfl, fun k31 hk31 => ⟨Sub.upd _ hk31, ?_⟩⟩
    have how2 : OwnL H2 49 oE 5 oa n c vs := h3.mono fun a o _ ho => hs2.le _ _ ho
    refine append_one tOp (E := oE) (x := ⟨⟨ev.op.k, ev.op.s, b, ev.op.n, q⟩, false, false⟩) hk31 oLen how2 rfl (oOne _) (by simp [maxLen]; omega) (by omega) ?_
    intro oa' c' H3 how3 hf3 hfr3 _
    have hk3 := own_tyk how2 hf3
    have hs1 := h1.sub hs2
    have nm : ∀ a, oa = some a → a.block ≠ m := fun a ha e => by
      obtain ⟨c2, r2, q2⟩ := own_ty h3 a ha
      unfold Bx at h1; rw [e, h1] at q2; injection q2 with e; injection e with _ e _; cases e
    have hb3 := hf3.bx hs1 nm
    have nm3 := hfr3.ne hs1 nm
    refine ⟨oa', n + 1, c', rfl, hx, hx, _, hb3.put (i := 0) (by simp), true, rfl, ⟨fun _ => .inl ⟨k1, i1⟩, fun _ => rfl⟩, ⟨oa', n + 1, c'⟩, ?_⟩
    have hk4 : TyK H3 (H3.upd m (.cells ([Value.slice oa n c, Value.map mr].set 0 (.slice oa' (n + 1) c')).toArray 37 (0, 0))) := .upd fun c t r hk => by
      unfold Bx at hb3; rw [hb3] at hk; injection hk with e; injection e with _ e _; subst e; unfold typ; decide
    have hkk := ((TyK.sub hs2).trans hk3).trans hk4
    have hFs := (hf3.sub (h.sub.trans hs2) h2)
    obtain ⟨ml, f, g1, g2⟩ := h5.out
    have hstep : stepOps ops e = ops ++ [⟨e.op, false, false⟩] := by unfold stepOps; rw [if_pos k1]
    have hstR : stepR ops R e = R := by
      unfold stepR
      split
      · rw [if_neg (by omega), if_neg (by omega)]
      · rfl
    rw [if_pos rfl, if_pos rfl, hstep, hstR]
    refine ⟨Bx.sub_of hFs h.o, h.o, oa', n + 1, c', _, mr, rfl, Bx.new .., hfr3.off (h.sub.trans hs2) h2, how3.mono fun a o ha ho => by rw [upd_ne _ _ (nm3 a ha)]; exact ho, ?_, h5.keep hkk fun mb e1 o ho => ?_⟩
    · refine ⟨by simp [hll], fun i v x hv hx' => ?_⟩
      by_cases hi : i < vs.length
      · rw [List.getElem?_append_left hi] at hv
        rw [List.getElem?_append_left (by omega)] at hx'
        exact (h4.2 i v x hv hx').keep hkk
      · rw [List.getElem?_append_right (by omega)] at hv
        rw [List.getElem?_append_right (by omega)] at hx'
        have hi1 := (List.getElem?_eq_some_iff.1 hv).1
        simp only [List.length_singleton] at hi1
        have ei : i = vs.length := by omega
        subst ei
        rw [hll] at hv hx'
        simp at hv hx'
        subst hv hx'
        exact ⟨⟨he.op.k, he.op.s, hb.keep (hk3.trans hk4)⟩, rfl, rfl⟩
    · obtain ⟨es, ck, q', _⟩ := (g1 mb e1).2.out
      have nmb : mb ≠ m := fun e => by unfold Bx at h1; rw [e, h1] at q'; cases q'
      rw [upd_ne _ _ nmb]
      refine hf3 _ _ (hs2.le _ _ ho) fun a ha e => ?_
      obtain ⟨c2, r2, q2⟩ := own_ty h3 a ha
      rw [e] at q'; rw [q'] at q2; cases q2
  · -- one that was called
    have k1 : e.kind ≠ 1 := by rw [← hk]; simpa using e1
    have hlo : 0 ≤ ev.id := by have := of_decide_eq_false e2; omega
    have hhi : ev.id < n := by have := of_decide_eq_false e3; omega
    obtain ⟨i, hi⟩ : ∃ i : Nat, ev.id = i := ⟨ev.id.toNat, by omega⟩
    have hei : e.id = i := by rw [← hid, hi]
    rw [hi] at hhi ⊢
    obtain ⟨v, hv, hvr⟩ := hl.ex (i := (i : Int)) (by omega) (by omega)
    rw [Int.toNat_natCast] at hv
    obtain ⟨o, ho⟩ : ∃ o, ops[i]? = some o := ⟨ops[i]'(by omega), List.getElem?_eq_getElem (by omega)⟩
    have hor := h4.2 i v o hv ho
    have hob := hl.ob (i := (i : Int)) (by omega) (by omega)
    have hen : Ob (elemA oa (i : Int) 5 ≠ none) := ⟨hl.elem_ne (by omega) (by omega)⟩
    have fld : ∀ {H : PHeap} {v : OsV}, Reads H (elemA oa (i : Int) 5) (oE v) → Reads H (fldA (elemA oa (i : Int) 5) 3) [.bool v.began] ∧ Reads H (fldA (elemA oa (i : Int) 5) 4) [.bool v.over] ∧ Reads H (fldA (elemA oa (i : Int) 5) 0) (opE v.op) := fun h =>
      ⟨h.fld 3 fun j u hu => by match j, hu with
        | 0, hu => exact hu
        | j + 1, hu => simp at hu, h.fld 4 fun j u hu => by match j, hu with
        | 0, hu => exact hu
        | j + 1, hu => simp at hu, h.fld 0 fun j u hu => by match j, hu with
        | 0, hu => exact hu
        | 1, hu => exact hu
        | 2, hu => exact hu
        | j + 3, hu => simp [opE] at hu⟩
    have hf := fld hvr
    have hsp := stepP_at (R := R) k1 hei ho
    have no : ∀ {H' : PHeap}, MapK F H' m ⟨oa, n, c⟩ ops R → (stepP ops R e → False) → Took F H' m ops R e (.bool false) := fun hm hn => took_no hm hn
    have hsO2 : e.kind = 2 → stepOps ops e = ops.modify i beginS := fun k2 => by unfold stepOps; rw [if_neg k1, if_pos k2, hei, Int.toNat_natCast]
    have hsO3 : e.kind ≠ 2 → stepOps ops e = ops.modify i overS := fun k2 => by unfold stepOps; rw [if_neg k1, if_neg k2, hei, Int.toNat_natCast]
    have hsR : stepR ops R e = if e.kind = 3 then answeredR ops R o e.an else if e.kind = 4 then (if o.began = true then driftO R o.op else R) else R := by unfold stepR; rw [hei, Int.toNat_natCast, ho]
    refine ⟨hx, hx, oa, n, c, rd0, hob, hen, v.over, hf.2.1, fun e4 => no h fun hs => ?_, fun e4 => ⟨H, Sub.refl _, hx, hx, oa, n, c, rd0, hob, fun e5 => ⟨H, Sub.refl _, hen, hen, v.began, hf.1, fun e6 => ?_, fun e6 => no h fun hs => ?_⟩, fun e5 => ⟨fun e6 => ⟨H, Sub.refl _, hen, v.op.k, v.op.s, v.op.a, v.op.n, v.op.c, v.began, v.over, hvr, ?_⟩, fun e6 => ⟨fun e7 => ⟨hen, hen, v.began, hf.1, fun e8 => ⟨hen, hen, v.op.k, v.op.s, v.op.a, v.op.n, v.op.c, hf.2.2, ?_⟩, fun e8 => ⟨hen, hen, ?_⟩⟩, fun e7 => no h fun hs => ?_⟩⟩⟩⟩
    · rw [hsp, ← hor.over, e4] at hs; cases hs.1
    · -- it begins
      have k2 : e.kind = 2 := by rw [← hk]; simpa using e5
      have hs2 : stepP ops R e ↔ ¬ busyX ops ∧ o.op = e.op ∧ checkX e.op = 0 := by
        rw [hsp, ← hor.over, ← hor.began, e4, e6]
        simp [k2]
      refine (busy_ok h (by omega)).mono ?_
      rintro _ _ ⟨b, rfl, hb, rfl⟩
      refine ⟨b, rfl, Sub.refl _, fun e7 => ⟨hen, hen, v.op.k, v.op.s, v.op.a, v.op.n, v.op.c, hf.2.2, (same_ok hor.op.w hop).mono ?_⟩, fun e7 => no h fun hs => ?_⟩
      · rintro _ _ ⟨r, rfl, hr, rfl⟩
        refine ⟨r, rfl, Sub.refl _, fun e8 => (qcheck_ok ev.op e.op hop).mono ?_, fun e8 => no h fun hs => ?_⟩
        · rintro _ _ ⟨rfl, rfl⟩
          refine ⟨_, rfl, fun e9 => no h fun hs => ?_, fun e9 => ⟨hen, hen, ?_⟩⟩
          · rw [hs2] at hs; rw [hs.2.2] at e9; simp at e9
          · obtain ⟨H9, hw, how9, hf9⟩ := op_put (v' := ⟨v.op, true, v.over⟩) (p := 3) h3 (by omega) hv rfl (by omega)
            refine ⟨H9, hw, true, rfl, ⟨fun _ => hs2.2 ⟨(fun hbb => by rw [hb.2 hbb] at e7; cases e7), hr.1 (by simpa using e8), by simpa using e9⟩, fun _ => rfl⟩, ⟨oa, n, c⟩, ?_⟩
            rw [if_pos rfl, if_pos rfl, hsO2 k2, hsR, if_neg (by omega), if_neg (by omega)]
            exact h.put h3 h4 hf9 how9 fun hr' => ops_set hr' hv fun o' ho' => ⟨ho'.op, rfl, ho'.over⟩
        · rw [hs2] at hs; rw [hr.2 hs.2.1] at e8; cases e8
      · rw [hs2] at hs; exact hs.1 (hb.1 (by simpa using e7))
    · have k2 : e.kind = 2 := by rw [← hk]; simpa using e5
      rw [hsp, ← hor.began] at hs
      rcases hs.2 with ⟨_, hb, _⟩ | ⟨hk3, _⟩ | hk4
      · rw [hb] at e6; cases e6
      · omega
      · omega
    · -- it is answered
      have k2 : e.kind ≠ 2 := by rw [← hk]; simpa using e5
      have k3 : e.kind = 3 := by rw [← hk]; simpa using e6
      refine (answered_ok hT h G hR (by omega) hor he.an he.small).mono ?_
      rintro _ H7 ⟨b, rfl, hb, hm7⟩
      obtain ⟨oa7, n7, c7, vs7, mr7, hsl7, w1, w2, w3, w4, w5⟩ := hm7.row
      cases hsl7
      have hl7 := (w3.rd (E := oE) (sz := 5) (by omega) oLen).len
      obtain ⟨v7, hv7⟩ : ∃ u, vs7[i]? = some u := ⟨vs7[i]'(by omega), List.getElem?_eq_getElem (by omega)⟩
      have hor7 := w4.2 i v7 o hv7 ho
      obtain ⟨H9, hw, how9, hf9⟩ := op_put (v' := ⟨v7.op, v7.began, b⟩) (p := 4) w3 (by omega) hv7 rfl (by omega)
      have hv9 : (vs7.set i ⟨v7.op, v7.began, b⟩)[i]? = some ⟨v7.op, v7.began, b⟩ := by rw [List.getElem?_set_self (by omega)]
      have hr9 := (how9.rd (E := oE) (sz := 5) (by omega) oLen).at (i := (i : Int)) (by omega) (x := ⟨v7.op, v7.began, b⟩) (by simpa using hv9)
      refine ⟨b, rfl, hen, hen, H9, hw, hen, hen, b, (fld hr9).2.1, b, rfl, ?_, ⟨oa, n, c⟩, ?_⟩
      · rw [hb, hsp, ← hor.over, e4]
        simp [k3]
      · have hm9 := hm7.put w3 w4 hf9 how9 (ops' := ops.modify i fun o => ⟨o.op, o.began, b⟩) fun hr' => ops_set hr' hv7 fun o' ho' => ⟨ho'.op, ho'.began, rfl⟩
        cases b with
        | true =>
          rw [if_pos rfl] at hm9
          rw [if_pos rfl, if_pos rfl, hsO3 k2, hsR, if_pos k3]; exact hm9
        | false =>
          rw [if_neg (by simp)] at hm9
          rw [if_neg (by simp), if_neg (by simp)]
          rwa [modify_id ho (by have := hor.over; rw [e4] at this; obtain ⟨q1, q2, q3⟩ := o; simp only at this; rw [← this])] at hm9
    · -- cut, and it floats
      have k2 : e.kind ≠ 2 := by rw [← hk]; simpa using e5
      have k3 : e.kind ≠ 3 := by rw [← hk]; simpa using e6
      have k4 : e.kind = 4 := by rw [← hk]; simpa using e7
      have hob1 : o.began = true := by rw [← hor.began]; exact e8
      refine (drift_ok h G hR hor.op).mono ?_
      rintro _ H7 ⟨rfl, hm7⟩
      obtain ⟨oa7, n7, c7, vs7, mr7, hsl7, w1, w2, w3, w4, w5⟩ := hm7.row
      cases hsl7
      have hl7 := (w3.rd (E := oE) (sz := 5) (by omega) oLen).len
      obtain ⟨v7, hv7⟩ : ∃ u, vs7[i]? = some u := ⟨vs7[i]'(by omega), List.getElem?_eq_getElem (by omega)⟩
      obtain ⟨H9, hw, how9, hf9⟩ := op_put (v' := ⟨v7.op, v7.began, true⟩) (p := 4) w3 (by omega) hv7 rfl (by omega)
      refine ⟨rfl, hen, hen, H9, hw, true, rfl, ⟨fun _ => hsp.2 ⟨by rw [← hor.over]; exact e4, .inr (.inr k4)⟩, fun _ => rfl⟩, ⟨oa, n, c⟩, ?_⟩
      rw [if_pos rfl, if_pos rfl, hsO3 k2, hsR, if_neg k3, if_pos k4, if_pos hob1]
      exact hm7.put w3 w4 hf9 how9 fun hr' => ops_set hr' hv7 fun o' ho' => ⟨ho'.op, ho'.began, rfl⟩
    · have k2 : e.kind ≠ 2 := by rw [← hk]; simpa using e5
      have k3 : e.kind ≠ 3 := by rw [← hk]; simpa using e6
      have k4 : e.kind = 4 := by rw [← hk]; simpa using e7
      have hob1 : ¬ o.began = true := by rw [← hor.began, e8]; simp
      obtain ⟨H9, hw, how9, hf9⟩ := op_put (v' := ⟨v.op, v.began, true⟩) (p := 4) h3 (by omega) hv rfl (by omega)
      refine ⟨H9, hw, true, rfl, ⟨fun _ => hsp.2 ⟨by rw [← hor.over]; exact e4, .inr (.inr k4)⟩, fun _ => rfl⟩, ⟨oa, n, c⟩, ?_⟩
      rw [if_pos rfl, if_pos rfl, hsO3 k2, hsR, if_neg k3, if_pos k4, if_neg hob1]
      exact h.put h3 h4 hf9 how9 fun hr' => ops_set hr' hv fun o' ho' => ⟨ho'.op, ho'.began, rfl⟩
    · have k2 : e.kind ≠ 2 := by rw [← hk]; simpa using e5
      have k3 : e.kind ≠ 3 := by rw [← hk]; simpa using e6
      have k4 : e.kind ≠ 4 := by rw [← hk]; simpa using e7
      rw [hsp] at hs
      rcases hs.2 with h | h | h
      · exact k2 h.1
      · exact k3 h.1
      · exact k4 h
  · have k1 : e.kind ≠ 1 := by rw [← hk]; simpa using e1
    have hhi : (n : Int) ≤ ev.id := by have e3' : decide (ev.id ≥ (n : Int)) = true := by simpa using e3
                                       exact of_decide_eq_true e3'
    refine took_no h fun hs => ?_
    rcases hs with ⟨hk1, _⟩ | ⟨_, _, o, ho, _⟩
    · exact k1 hk1
    · have := (List.getElem?_eq_some_iff.1 ho).1
      omega
  · have k1 : e.kind ≠ 1 := by rw [← hk]; simpa using e1
    have hlo : ev.id < 0 := by have e2' : decide (ev.id < 0) = true := by simpa using e2
                               exact of_decide_eq_true e2'
    refine took_no h fun hs => ?_
    rcases hs with ⟨hk1, _⟩ | ⟨_, h0, _⟩
    · exact k1 hk1
    · omega
end
end Go.Mdl
