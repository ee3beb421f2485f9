/- An event is taken: the contract. -/
import Derived.Test.YtlhnepjidbofnaaDoorMdlM
namespace Go.Mdl
open Go.Vx Go.Vc Go.Proofs

open Classical in
noncomputable def checkX (o : OpX) : Int := if o.k < 1 ∨ o.k > 6 then 1 else if o.k = 4 ∧ o.s ≠ ⟨#[]⟩ then 1 else if o.k ≠ 1 ∧ 0 < o.d.size then 1 else if o.k ≠ 4 ∧ ¬ NameP o.s then 8 else if 240 < o.d.size then 7 else 0
def busyX (ops : List OpS) : Prop := ∃ o ∈ ops, o.began = true ∧ o.over = false
structure EvX where
  kind : Int
  id : Int
  op : OpX
  an : AnX
structure EvW where
  kind : Int
  id : Int
  ballot : Int
  op : OpV
  an : AnV
def evE (v : EvW) : List Value := [.int .i64 v.kind, .int .i64 v.id, .int .i64 v.ballot] ++ opE v.op ++ anE v.an
structure EvR (H : PHeap) (v : EvW) (x : EvX) : Prop where
  kind : v.kind = x.kind
  id : v.id = x.id
  op : OpW H v.op x.op
  an : AnR H v.an x.an
  small : v.an.n.n ≤ 1000
open Classical in
noncomputable def answeredP (ops : List OpS) (R : Poss) (o : OpS) (x : AnX) : Prop := if o.began = true then fitsP ops R o.op x else x.e ≠ 0 ∧ x.e = checkX o.op ∧ plainX x
noncomputable def answeredR (ops : List OpS) (R : Poss) (o : OpS) (x : AnX) : Poss := if o.began = true then fitsR ops R o.op x else R
noncomputable def stepP (ops : List OpS) (R : Poss) (e : EvX) : Prop :=
  (e.kind = 1 ∧ e.id = ops.length) ∨ (e.kind ≠ 1 ∧ 0 ≤ e.id ∧ ∃ o, ops[e.id.toNat]? = some o ∧ o.over = false ∧
    ((e.kind = 2 ∧ o.began = false ∧ ¬ busyX ops ∧ o.op = e.op ∧ checkX e.op = 0) ∨ (e.kind = 3 ∧ answeredP ops R o e.an) ∨ e.kind = 4))
def beginS (o : OpS) : OpS := ⟨o.op, true, o.over⟩
def overS (o : OpS) : OpS := ⟨o.op, o.began, true⟩
def stepOps (ops : List OpS) (e : EvX) : List OpS := if e.kind = 1 then ops ++ [⟨e.op, false, false⟩] else if e.kind = 2 then ops.modify e.id.toNat beginS else ops.modify e.id.toNat overS
noncomputable def stepR (ops : List OpS) (R : Poss) (e : EvX) : Poss := match ops[e.id.toNat]? with
  | some o => if e.kind = 3 then answeredR ops R o e.an else if e.kind = 4 then (if o.began = true then driftO R o.op else R) else R
  | none => R
section
variable {T : Lib.PrintTabs} {F H : PHeap} {m : Nat} {sl : SlV} {ops : List OpS} {R : Poss} {ds D : List Fl}
theorem qcheck_ok (ov : OpV) (o : OpX) (ho : OpW H ov o) : Triple Tryd.prog 14 #[.agg (opE ov).toArray] H fun v H' => v = .int .i64 (checkX o) ∧ H' = H := by
  have hk := ho.k
  have hs := ho.s
  have hl := bw_len ho.d
  refine qCheck.vc ov.k ov.s ov.a ov.n ov.c H _ ⟨fun e1 => ⟨?_, rfl⟩, fun e1 => ⟨fun e2 => ⟨?_, rfl⟩, fun e2 => ⟨fun e3 => ⟨?_, rfl⟩, fun e3 => ⟨fun e4 => (right_ok ov.s).mono ?_, fun e4 => ⟨fun e5 => ⟨?_, rfl⟩, fun e5 => ⟨?_, rfl⟩⟩⟩⟩⟩⟩
  · have : o.k < 1 ∨ o.k > 6 := by rw [← hk]; simp only [Bool.cond_eq_ite] at e1; grind
    unfold checkX; rw [if_pos this]
  all_goals have k1 : ¬ (o.k < 1 ∨ o.k > 6) := by rw [← hk]; simp only [Bool.cond_eq_ite] at e1; grind
  · have : o.k = 4 ∧ o.s ≠ ⟨#[]⟩ := by
      rw [← hk, ← hs]; simp only [Bool.cond_eq_ite] at e2
      split at e2
      · rename_i h; exact ⟨by simpa using h, eqS_false.1 (by simpa using e2)⟩
      · cases e2
    unfold checkX; rw [if_neg k1, if_pos this]
  all_goals have k2 : ¬ (o.k = 4 ∧ o.s ≠ ⟨#[]⟩) := by
              rw [← hk, ← hs]; simp only [Bool.cond_eq_ite] at e2
              intro h
              rw [if_pos (by simpa using h.1)] at e2
              exact h.2 (eqS_iff.1 (by simpa using e2))
  · have : o.k ≠ 1 ∧ 0 < o.d.size := by rw [← hk, hl]; simp only [Bool.cond_eq_ite] at e3; grind
    unfold checkX; rw [if_neg k1, if_neg k2, if_pos this]
  all_goals have k3 : ¬ (o.k ≠ 1 ∧ 0 < o.d.size) := by rw [← hk, hl]; simp only [Bool.cond_eq_ite] at e3; grind
  · have k4 : o.k ≠ 4 := by rw [← hk]; simpa using e4
    rintro _ _ ⟨b, rfl, rfl, hb⟩
    rw [hs] at hb
    refine ⟨b, rfl, fun e5 => ⟨?_, rfl⟩, fun e5 => ⟨fun e6 => ⟨?_, rfl⟩, fun e6 => ⟨?_, rfl⟩⟩⟩
    · unfold checkX; rw [if_neg k1, if_neg k2, if_neg k3, if_pos ⟨k4, fun h => by rw [hb.2 h] at e5; cases e5⟩]
    · have : 240 < o.d.size := by rw [hl]; have := of_decide_eq_true e6; omega
      unfold checkX; rw [if_neg k1, if_neg k2, if_neg k3, if_neg (fun h => h.2 (hb.1 (by simpa using e5))), if_pos this]
    · have : ¬ 240 < o.d.size := by rw [hl]; have := of_decide_eq_false e6; omega
      unfold checkX; rw [if_neg k1, if_neg k2, if_neg k3, if_neg (fun h => h.2 (hb.1 (by simpa using e5))), if_neg this]
  · have k4 : o.k = 4 := by rw [← hk]; simpa using e4
    have : 240 < o.d.size := by rw [hl]; have := of_decide_eq_true e5; omega
    unfold checkX; rw [if_neg k1, if_neg k2, if_neg k3, if_neg (fun h => h.1 k4), if_pos this]
  · have k4 : o.k = 4 := by rw [← hk]; simpa using e4
    have : ¬ 240 < o.d.size := by rw [hl]; have := of_decide_eq_false e5; omega
    unfold checkX; rw [if_neg k1, if_neg k2, if_neg k3, if_neg (fun h => h.1 k4), if_neg this]
theorem same_ok {av bv : OpV} {a b : OpX} (ha : OpW H av a) (hb : OpW H bv b) : Triple Tryd.prog 13 #[.agg (opE av).toArray, .agg (opE bv).toArray] H fun v H' => ∃ r, v = .bool r ∧ (r = true ↔ a = b) ∧ H' = H := by
  obtain ⟨k, s, d⟩ := a
  obtain ⟨k', s', d'⟩ := b
  obtain ⟨hk, hs, hd⟩ := ha
  obtain ⟨hk', hs', hd'⟩ := hb
  simp only at hk hs hd hk' hs' hd'
  refine mSame.vc av.k av.s av.a av.n av.c bv.k bv.s bv.a bv.n bv.c H _ ⟨fun e1 => ⟨fun e2 => str_of hd ⟨d, rfl, str_of hd' ⟨d', rfl, _, rfl, ?_, rfl⟩⟩, fun e2 => ⟨_, rfl, ?_, rfl⟩⟩, fun e1 => ⟨_, rfl, ?_, rfl⟩⟩
  · have h1 : k = k' := by rw [← hk, ← hk']; simpa using e1
    have h2 : s = s' := by rw [← hs, ← hs']; exact eqS_iff.1 e2
    rw [eqS_iff, h1, h2]; simp
  · have h2 : s ≠ s' := by rw [← hs, ← hs']; exact eqS_false.1 (by simpa using e2)
    simp [h2]
  · have h1 : k ≠ k' := by rw [← hk, ← hk']; simpa using e1
    simp [h1]
theorem busy_ok (h : MapK F H m sl ops R) (hops : ops.length ≤ 1000) : Triple Tryd.prog 12 #[.pointer (at0 m)] H fun v H' => ∃ b, v = .bool b ∧ (b = true ↔ busyX ops) ∧ H' = H := by
  obtain ⟨oa, n, c, vs, mr, hsl, h1, h2, h3, h4, h5⟩ := h.row
  have hl := h3.rd (E := oE) (sz := 5) (by omega) oLen
  have hln := hl.len
  have hll := h4.1
  have hx := MapK.ob (m := m)
  have hidx : Triple Tryd.prog 36 #[.slice oa n c, .func (.func 24) #[] #[]] H fun v H' => ∃ i : Int, v = .int .i64 i ∧ (decide (i ≥ 0) = true ↔ busyX ops) ∧ H' = H := by
    refine sIdxF.vc oa n c _ H _ ⟨fun t H' => match t with | [.int _ i] => 0 ≤ i ∧ i ≤ n ∧ H' = H ∧ ∀ o ∈ ops.take i.toNat, ¬ (o.began = true ∧ o.over = false) | _ => False, fun t _ => match t with | [.int _ i] => (n - i).toNat | _ => 0, ⟨by omega, by omega, rfl, by simp⟩, ?_⟩
    rintro i _ ⟨i0, i1, rfl, hno⟩
    obtain ⟨i, rfl⟩ : ∃ j : Nat, i = j := ⟨i.toNat, by omega⟩
    rw [Int.toNat_natCast] at hno
    refine ⟨fun hi => ?_, fun hi => ?_⟩
    · have hi' : i < n := by simpa using hi
      obtain ⟨v, hv, hvr⟩ := hl.ex (i := (i : Int)) (by omega) (by omega)
      rw [Int.toNat_natCast] at hv
      obtain ⟨o, ho⟩ : ∃ o, ops[i]? = some o := ⟨ops[i]'(by omega), List.getElem?_eq_getElem (by omega)⟩
      have hor := h4.2 i v o hv ho
      refine ⟨hl.ob (by omega) (by omega), v.op.k, v.op.s, v.op.a, v.op.n, v.op.c, v.began, v.over, hvr, CallY.fn (by kernel_rfl) (mBusy1.vc v.op.k v.op.s v.op.a v.op.n v.op.c v.began v.over _ _ ⟨_, rfl, fun e => ⟨_, rfl, ?_, rfl⟩, fun e => ?_⟩)⟩
      · have : o.began = true ∧ o.over = false := by rw [← hor.began, ← hor.over]; simp only [Bool.cond_eq_ite] at e; grind
        simp only [ge_iff_le, i0, decide_true, true_iff]
        exact ⟨o, List.mem_of_getElem? ho, this⟩
      · have : ¬ (o.began = true ∧ o.over = false) := by rw [← hor.began, ← hor.over]; simp only [Bool.cond_eq_ite] at e; grind
        rw [wrap64 (by omega) (by omega)]
        refine ⟨⟨by omega, by omega, rfl, fun o' ho' => ?_⟩, ⟨by simp only; omega⟩⟩
        rw [show ((i : Int) + 1).toNat = i + 1 by omega, List.take_add_one, ho] at ho'
        rcases List.mem_append.1 ho' with h | h
        · exact hno o' h
        · simp at h; subst h; exact this
    · have : ¬ i < n := by simpa using hi
      rw [List.take_of_length_le (by omega)] at hno
      exact ⟨-1, rfl, by simp only [ge_iff_le, Int.reduceNeg, Int.reduceLE, decide_false, Bool.false_eq_true, false_iff]; exact fun ⟨o, ho, hb⟩ => hno o ho hb, rfl⟩
  refine mBusy.vc (at0 m) H _ ⟨hx, hx, oa, n, c, h1.fld (i := 0) rfl, sConF.vc oa n c _ H _ (hidx.mono ?_)⟩
  rintro _ _ ⟨i, rfl, hi, rfl⟩
  exact ⟨i, rfl, _, rfl, _, rfl, hi, rfl⟩
theorem answered_ok (hT : Tabs F T) (h : MapK F H m sl ops R) (G : Good ds D) (hR : InAll ds D R) (hops : ops.length ≤ 1000) {ov : OsV} {o : OpS} (ho : OsR H ov o) {av : AnV} {x : AnX} (hx : AnR F av x) (hxn : av.n.n ≤ 1000) :
    Triple Tryd.prog 15 #[.pointer (at0 m), .agg (oE ov).toArray, .agg (anE av).toArray] H fun v H' => ∃ b, v = .bool b ∧ (b = true ↔ answeredP ops R o x) ∧ MapK F H' m sl ops (if b = true then answeredR ops R o x else R) := by
  have hb := ho.began
  have he := hx.e
  refine mAnswered.vc (at0 m) ov.op.k ov.op.s ov.op.a ov.op.n ov.op.c ov.began ov.over av.e av.size av.d.a av.d.n av.d.c av.n.a av.n.n av.n.c H _ ⟨fun e1 => (fits_ok hT h G hR hops ho.op hx hxn).mono ?_, fun e1 => ⟨H, Sub.refl _, fun e2 => (qcheck_ok ov.op o.op ho.op.w).mono ?_, fun e2 => ?_⟩⟩
  · have b1 : o.began = true := by rw [← hb]; exact e1
    rintro _ H' ⟨b, rfl, hbb, hm⟩
    exact ⟨b, rfl, b, rfl, by rw [hbb]; unfold answeredP; rw [if_pos b1], by unfold answeredR; rw [if_pos b1]; exact hm⟩
  all_goals have b1 : ¬ o.began = true := by rw [← hb, e1]; simp
  all_goals have eP : answeredP ops R o x = (x.e ≠ 0 ∧ x.e = checkX o.op ∧ plainX x) := by unfold answeredP; rw [if_neg b1]
  all_goals have eR : answeredR ops R o x = R := by unfold answeredR; rw [if_neg b1]
  · rintro _ _ ⟨rfl, rfl⟩
    have x0 : x.e ≠ 0 := by rw [← he]; simpa using e2
    refine ⟨_, rfl, Sub.refl _, fun e3 => (plain_ok (hx.mono h.sub)).mono ?_, fun e3 => ⟨false, rfl, ?_, h⟩⟩
    · have xe : x.e = checkX o.op := by rw [← he]; simpa using e3
      rintro _ _ ⟨b, rfl, hbb, rfl⟩
      refine ⟨b, rfl, b, rfl, ?_, ?_⟩
      · rw [eP, hbb]; exact ⟨fun h => ⟨x0, xe, h⟩, fun h => h.2.2⟩
      · rw [eR, ite_self]; exact h
    · rw [eP]; simp only [Bool.false_eq_true, false_iff]
      intro hh; rw [he, hh.2.1] at e3; simp at e3
  · refine ⟨false, rfl, ?_, h⟩
    rw [eP]; simp only [Bool.false_eq_true, false_iff]
    intro hh; rw [he] at e2; exact hh.1 (by simpa using e2)
end
end Go.Mdl
