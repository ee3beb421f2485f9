/- What an answer looks at, and what floats: the contracts. -/
import Derived.Test.YtlhnepjidbofnaaDoorMdlG
namespace Go.Mdl
open Go.Vx Go.Vc Go.Proofs

theorem kcOb (k : Nat) : Ob (at0 k ≠ none) := ⟨by simp [at0]⟩
theorem cE_set {H : PHeap} {kc : Nat} {v : Cv} (h : Bx H kc 62 (cE v)) : H.upd kc (.cells (cE ⟨v.p, v.d, v.a, v.n, v.c⟩).toArray 62 (0, 0)) = H := upd_self h
/-! ### What looks at a possibility -/
def thereF (x : Ch) : Option Ch := if x.p then some x else none
def noneF (x : Ch) : Option Ch := if x.p then none else some x
def putF (d : ByteArray) (x : Ch) : Option Ch := if x.p then none else some ⟨true, d, x.fl⟩
def getF (d : ByteArray) (x : Ch) : Option Ch := if x.p = true ∧ x.d = d then some x else none
def delF (x : Ch) : Option Ch := if x.p then some ⟨false, ⟨#[]⟩, x.fl⟩ else none
def statF (n : Int) (x : Ch) : Option Ch := if x.p = true ∧ (x.d.size : Int) = n then some x else none
theorem there_sp (H : PHeap) : FnSpec H (.func (.func 40) #[] #[]) thereF := fun H' kc v x Q hs hk hb hp hd hQ => by
  refine CallY.fn (by kernel_rfl) (mThere.vc (at0 kc) H' Q ⟨kcOb _, kcOb _, v.p, hb.fld (i := 0) rfl, ?_⟩)
  have := hQ v.p v.d fun y hy => by unfold thereF at hy; split at hy <;> cases hy; exact ⟨hp.symm, hd.symm, rfl⟩
  rw [cE_set hb] at this
  rw [hp]
  unfold thereF at this
  cases hx : x.p <;> rw [hx] at this <;> exact this
theorem none_sp (H : PHeap) : FnSpec H (.func (.func 41) #[] #[]) noneF := fun H' kc v x Q hs hk hb hp hd hQ => by
  refine CallY.fn (by kernel_rfl) (mNone.vc (at0 kc) H' Q ⟨kcOb _, kcOb _, v.p, hb.fld (i := 0) rfl, ?_⟩)
  have := hQ v.p v.d fun y hy => by unfold noneF at hy; split at hy <;> cases hy; exact ⟨hp.symm, hd.symm, rfl⟩
  rw [cE_set hb] at this
  rw [hp]
  unfold noneF at this
  cases hx : x.p <;> rw [hx] at this <;> exact this
theorem str_of {H : PHeap} {a : Option Addr} {n c : Nat} {d : ByteArray} (h : RdL H bE 1 a n (bytesL d)) {K : Value → Prop} (hK : K (.string d)) : LookV Tryd.prog (convert 23 9 (.slice a n c)) H K :=
  bytes_str (e := 5) (by kernel_rfl) (by kernel_rfl) (by kernel_rfl) h (by rw [strOf_bytes]; exact hK)
theorem put_sp {H : PHeap} {k : Nat} {o : OpV} {d : ByteArray} (hb : Bx H k 25 (opE o)) (hd : BL H o.a o.n d) : FnSpec H (.func (.func 60) #[] #[.pointer (at0 k)]) (putF d) := fun H' kc v x Q hs hk hbc hp hdd hQ => by
  have hb' := hb.sub hs
  have hd' := hd.keep (TyK.sub hs)
  refine CallY.fn (by kernel_rfl) (mDone1.vc (at0 kc) (at0 k) H' Q ⟨kcOb _, kcOb _, v.p, hbc.fld (i := 0) rfl, kcOb _, o.a, o.n, o.c, hb'.fld (i := 2) rfl, str_of hd'.rd ⟨d, rfl, kcOb _, kcOb _, _, hbc.put (i := 0) (by simp [cE]), kcOb _, kcOb _, _, (Bx.new ..).put (i := 1) (by simp [cE]), ?_⟩⟩)
  rw [upd_upd]
  have := hQ true d fun y hy => by unfold putF at hy; split at hy <;> cases hy; exact ⟨rfl, rfl, rfl⟩
  rw [hp]
  unfold putF at this
  cases hx : x.p <;> rw [hx] at this <;> exact this
theorem get_sp {H : PHeap} {k : Nat} {e z : Int} {a b : SlV} {d : ByteArray} (hb : Bx H k 29 [.int .i64 e, .int .i64 z, slV a, slV b]) (hd : RdL H bE 1 a.a a.n (bytesL d)) : FnSpec H (.func (.func 61) #[] #[.pointer (at0 k)]) (getF d) := fun H' kc v x Q hs hk hbc hp hdd hQ => by
  have hb' := hb.sub hs
  have hd' := hd.mono hs
  have hq := hQ v.p v.d fun y hy => by unfold getF at hy; split at hy <;> cases hy; exact ⟨hp.symm, hdd.symm, rfl⟩
  rw [cE_set hbc] at hq
  refine CallY.fn (by kernel_rfl) (mDone2.vc (at0 kc) (at0 k) H' Q ⟨H', Sub.refl _, kcOb _, kcOb _, v.p, hbc.fld (i := 0) rfl, fun e1 => ⟨kcOb _, kcOb _, v.d, hbc.fld (i := 1) rfl, kcOb _, a.a, a.n, a.c, hb'.fld (i := 2) rfl, str_of hd' ⟨d, rfl, ?_⟩⟩, fun e1 => ?_⟩)
  · unfold getF at hq
    rw [← hp, ← hdd, e1] at hq
    by_cases e2 : v.d = d
    · rw [if_pos ⟨rfl, e2⟩] at hq; rw [eqS_iff.2 e2]; exact hq
    · rw [if_neg (by simp [e2])] at hq; rw [eqS_false.2 e2]; exact hq
  · unfold getF at hq
    have e2 : v.p = false := by simpa using e1
    rw [← hp, e2, if_neg (by simp)] at hq; exact hq
theorem del_sp (H : PHeap) : FnSpec H (.func (.func 62) #[] #[]) delF := fun H' kc v x Q hs hk hbc hp hdd hQ => by
  refine CallY.fn (by kernel_rfl) (mDone3.vc (at0 kc) H' Q ⟨kcOb _, kcOb _, v.p, hbc.fld (i := 0) rfl, kcOb _, kcOb _, _, hbc.put (i := 0) (by simp [cE]), kcOb _, kcOb _, _, (Bx.new ..).put (i := 1) (by simp [cE]), ?_⟩)
  rw [upd_upd]
  have := hQ false ⟨#[]⟩ fun y hy => by unfold delF at hy; split at hy <;> cases hy; exact ⟨rfl, rfl, rfl⟩
  rw [hp]
  unfold delF at this
  cases hx : x.p <;> rw [hx] at this <;> exact this
theorem stat_sp {H : PHeap} {k : Nat} {e z : Int} {a b : SlV} (hb : Bx H k 29 [.int .i64 e, .int .i64 z, slV a, slV b]) : FnSpec H (.func (.func 63) #[] #[.pointer (at0 k)]) (statF z) := fun H' kc v x Q hs hk hbc hp hdd hQ => by
  have hb' := hb.sub hs
  have hq := hQ v.p v.d fun y hy => by unfold statF at hy; split at hy <;> cases hy; exact ⟨hp.symm, hdd.symm, rfl⟩
  rw [cE_set hbc] at hq
  refine CallY.fn (by kernel_rfl) (mDone4.vc (at0 kc) (at0 k) H' Q ⟨H', Sub.refl _, kcOb _, kcOb _, v.p, hbc.fld (i := 0) rfl, fun e1 => ⟨kcOb _, kcOb _, v.d, hbc.fld (i := 1) rfl, kcOb _, z, hb'.fld (i := 1) rfl, ?_⟩, fun e1 => ?_⟩)
  · unfold statF at hq
    rw [← hp, ← hdd, e1] at hq
    by_cases e2 : (v.d.size : Int) = z
    · rw [if_pos ⟨rfl, e2⟩] at hq; rw [beq_iff_eq.2 e2]; exact hq
    · rw [if_neg (by simp [e2])] at hq; rw [beq_eq_false_iff_ne.2 e2]; exact hq
  · unfold statF at hq
    have e2 : v.p = false := by simpa using e1
    rw [← hp, e2, if_neg (by simp)] at hq; exact hq

/-! ### What floats -/
def addF (f : Fl) (x : Ch) : Ch := ⟨x.p, x.d, x.fl ++ [f]⟩
def driftR (f : Fl) (A : Ch → Prop) (z : Ch) : Prop := ∃ y, A y ∧ Reach (addF f y) z
theorem gN_add {f : Fl} {x z : Ch} {i : Nat} (h : gN x i = some z) : gN (addF f x) i = some (addF f z) := by
  unfold gN at h ⊢
  cases hf : x.fl[i]? with
  | none => rw [hf] at h; cases h
  | some g =>
    have hi := (List.getElem?_eq_some_iff.1 hf).1
    have : (addF f x).fl[i]? = some g := by unfold addF; rw [List.getElem?_append_left hi]; exact hf
    rw [this]
    rw [hf] at h
    simp only at h ⊢
    by_cases e : g.1 = x.p
    · rw [if_pos e] at h; cases h
    · rw [if_neg e] at h; cases h
      rw [if_neg (by unfold addF; exact e)]
      simp [addF, List.eraseIdx_append_of_lt_length hi]
theorem nextL_mem {x z : Ch} : z ∈ nextL x ↔ ∃ i, i < x.fl.length ∧ gN x i = some z := by
  unfold nextL nextP
  rw [List.mem_filterMap]
  simp [List.mem_range]
theorem reach_add {f : Fl} {x z : Ch} (h : Reach x z) : Reach (addF f x) (addF f z) := by
  induction h with
  | refl => exact .refl
  | step _ hz ih =>
    obtain ⟨i, hi, hg⟩ := nextL_mem.1 hz
    exact ih.step (nextL_mem.2 ⟨i, by simp [addF]; omega, gN_add hg⟩)
theorem reach_trans {x y z : Ch} (h : Reach x y) (h' : Reach y z) : Reach x z := by
  induction h' with
  | refl => exact h
  | step _ hz ih => exact ih.step hz
theorem drift_ok {F H : PHeap} {m : Nat} {sl : SlV} {ops : List OpS} {R : Poss} (h : MapK F H m sl ops R) {ds D : List Fl} (G : Good ds D) (hR : ∀ s z, R s z → InU ds D z) {ov : OpV} {o : OpX} (ho : OpR H ov o) :
    Triple Tryd.prog 16 #[.pointer (at0 m), .agg (opE ov).toArray] H fun v H' => v = .tuple #[] ∧ MapK F H' m sl ops (if o.k = 1 ∨ o.k = 3 then setR R o.s (driftR (decide (o.k = 1), o.d) (R o.s)) else R) := by
  obtain ⟨k, s, a, n, c⟩ := ov
  obtain ⟨rfl, rfl, hd⟩ := ho
  refine mDrift.vc (at0 m) o.k o.s a n c H _ ⟨fun e => ?_, fun e => ?_⟩
  · have e' : ¬ (o.k = 1 ∨ o.k = 3) := by
      simp only [bne_iff_ne, ne_eq, Bool.cond_eq_ite] at e
      split at e <;> simp_all
    exact ⟨rfl, by rw [if_neg e']; exact h⟩
  · have e' : o.k = 1 ∨ o.k = 3 := by
      simp only [Bool.cond_eq_ite] at e
      split at e <;> simp_all
    rw [if_pos e']
    refine str_of hd.rd ⟨o.d, rfl, (of_ok h o.s).mono ?_⟩
    rintro _ H1 ⟨u, xs, rfl, hu, hRx, hxl, hs1⟩
    obtain ⟨vs, hl, hr, hty⟩ := hu.out
    have hln := hl.len
    have hrl := hr.1
    generalize hf : ((decide (o.k = 1), o.d) : Fl) = f
    have hf1 : f.1 = (o.k == 1) := by rw [← hf]; by_cases e : o.k = 1 <;> simp [e]
    have hf2 : f.2 = o.d := by rw [← hf]
    refine ⟨u.a, u.n, u.c, rfl, fun t H' => match t with | [.slice b q r, .int _ i] => 0 ≤ i ∧ i ≤ u.n ∧ Sub H1 H' ∧ Off H1 b ∧ ∃ us, OwnL H' 62 cE 3 b q r us ∧ Rel H' us ((xs.take i.toNat).map (addF f)) | _ => False, fun t _ => match t with | [_, .int _ i] => (u.n - i).toNat | _ => 0,
      ⟨by omega, by omega, Sub.refl _, Off.none _, [], Owns.nil .., ⟨by simp, fun i v x h => by simp at h⟩⟩, ?_⟩
    rintro b q r i H3 ⟨i0, i1, hs3, hof, us, how, hrel⟩
    obtain ⟨i, rfl⟩ : ∃ j : Nat, i = j := ⟨i.toNat, by omega⟩
    rw [Int.toNat_natCast] at hrel
    have hql : q = ((xs.take i).map (addF f)).length := by
      have := (how.rd (E := cE) (sz := 3) (by omega) cLen).len
      have := hrel.1
      omega
    have hxl2 : ((xs.take i).map (addF f)).length ≤ 5000 := by rw [List.length_map, List.length_take]; omega
    refine ⟨fun hi => ?_, fun hi => ?_⟩
    · have hi' : i < u.n := by simpa using hi
      have hl3 := hl.mono hs3
      obtain ⟨v, hv, hvr⟩ := hl3.ex (i := (i : Int)) (by omega) (by omega)
      rw [Int.toNat_natCast] at hv
      obtain ⟨x, hx, hxr⟩ := hr.get hv
      have hxU := hR o.s x ((hRx x).2 ⟨x, List.mem_of_getElem? hx, .refl⟩)
      have hx10 := (G.ok hxU).2.1
      refine ⟨hl3.ob (by omega) (by omega), v.p, v.d, v.a, v.n, v.c, hvr, fun kc hkc => ⟨_, Bx.writes (Bx.new ..) (cE v) rfl, ?_⟩⟩
      rw [upd_upd]
      have hskc := Sub.upd (H := H3) (.cells (cE v).toArray 62 (0, 0)) hkc
      have hbc : Bx (H3.upd kc (.cells (cE v).toArray 62 (0, 0))) kc 62 (cE v) := Bx.new ..
      have hfl := (hxr.mono (hs3.trans hskc)).fl
      have hvn : v.n = x.fl.length := hfl.len.symm
      refine ⟨_, Sub.refl _, kcOb _, v.a, v.n, v.c, hbc.fld (i := 2) rfl, (cloneF_ok hfl (by omega)).mono ?_⟩
      rintro _ H4 ⟨b4, q4, rfl, ho4, hs4, hof4⟩
      refine ⟨b4, v.n, q4, rfl, hs4, fun k38 hk38 => ⟨hs4.trans (Sub.upd _ hk38), ?_⟩⟩
      refine append_one tFl (E := fE) (x := f) hk38 fLen ho4 (by rw [← hf1, ← hf2]; rfl) (fOne _) (by simp [maxLen]; omega) (by omega) ?_
      intro b5 q5 H5 ho5 hf5 hfr5 _
      have hs5 := hf5.sub hs4 hof4
      have hof5 := hfr5.off hs4 hof4
      have hbc5 := hbc.sub hs5
      refine ⟨b5, v.n + 1, q5, rfl, kcOb _, _, hbc5.put (i := 2) (by simp [cE]), v.p, v.d, b5, v.n + 1, q5, (Bx.new H5 kc _ (cE ⟨v.p, v.d, b5, v.n + 1, q5⟩)).reads, fun k50 hk50 => ?_⟩
      -- back to what stood ahead of the round
      have hs35 : Sub H3 (H5.upd kc (.cells (cE ⟨v.p, v.d, b5, v.n + 1, q5⟩).toArray 62 (0, 0))) := Bx.sub_of (hskc.trans hs5) hkc
      have hFK : FlK H5 (H5.upd kc (.cells (cE ⟨v.p, v.d, b5, v.n + 1, q5⟩).toArray 62 (0, 0))) := .upd fun c r hk => by
        unfold Bx at hbc5; rw [hbc5] at hk; injection hk with e; injection e with _ e _; cases e
      have how' := how.mono (H' := H5.upd kc (.cells (cE ⟨v.p, v.d, b5, v.n + 1, q5⟩).toArray 62 (0, 0))) fun a' o' _ ho => hs35.le _ _ ho
      refine append_one tCh (E := cE) (x := ⟨v.p, v.d, b5, v.n + 1, q5⟩) hk50 cLen how' rfl (cOne _) (by simp [maxLen]; omega) (by omega) ?_
      intro b6 q6 H6 ho6 hf6 hfr6 _
      have hs6 := hf6.sub (hs3.trans hs35) hof
      have hk6 : FlK (H5.upd kc (.cells (cE ⟨v.p, v.d, b5, v.n + 1, q5⟩).toArray 62 (0, 0))) H6 := FlK.frame hf6 fun a1 ha c1 r1 hk => by
        obtain ⟨c2, r2, h2⟩ := own_ty how' a1 ha
        rw [h2] at hk; injection hk with e; injection e with _ e _; cases e
      have ei : ((i : Int) + 1).toNat = i + 1 := by omega
      rw [wrap64 (n := (i : Int) + 1) (by omega) (by omega)]
      refine ⟨b6, q + 1, q6, rfl, ⟨by omega, by omega, hs6, hfr6.off (hs3.trans hs35) hof, _, ho6, ?_⟩, ⟨by simp only; omega⟩⟩
      rw [ei, List.take_add_one, hx, List.map_append]
      have hnew : ChR H5 ⟨v.p, v.d, b5, v.n + 1, q5⟩ (addF f x) := ⟨hxr.p, hxr.d, ho5.rd (by omega) fLen, own_ty ho5⟩
      exact (hrel.keep (FlK.trans (fun b c r h => hs35.le _ _ h) hk6)).add (hnew.keep (hFK.trans hk6))
    · have hi' : ¬ i < u.n := by simpa using hi
      rw [List.take_of_length_le (by omega)] at hrel hxl2
      have hm3 := h.mono (hs1.trans hs3)
      refine (set_ok hm3 o.s (v := ⟨b, q, r⟩) ⟨us, how.rd (by omega) cLen, hrel, own_ty how⟩ hxl2).mono ?_
      rintro _ H4 ⟨rfl, hm4⟩
      refine ⟨rfl, rfl, hm4.congr fun t z => ?_⟩
      unfold setR driftR
      refine or_congr_left (and_congr_right fun _ => ⟨?_, ?_⟩)
      · rintro ⟨g, hg, hz⟩
        obtain ⟨y, hy, rfl⟩ := List.mem_map.1 hg
        exact ⟨y, (hRx y).2 ⟨y, hy, .refl⟩, hz⟩
      · rintro ⟨y, hy, hz⟩
        obtain ⟨x, hx, hxy⟩ := (hRx y).1 hy
        exact ⟨addF f x, List.mem_map.2 ⟨x, hx, rfl⟩, reach_trans (reach_add hxy) hz⟩
end Go.Mdl
