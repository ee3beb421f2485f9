/- Which answers fit, and what is behind them: plain words, and the contracts. -/
import Derived.Test.YtlhnepjidbofnaaDoorMdlN
namespace Go.Mdl
open Go.Vx Go.Vc Go.Proofs

/-- An answer. -/
structure AnX where
  e : Int
  size : Int
  data : ByteArray
  names : List ByteArray
structure AnV where
  e : Int
  size : Int
  d : SlV
  n : SlV
def anE (v : AnV) : List Value := [.int .i64 v.e, .int .i64 v.size, .slice v.d.a v.d.n v.d.c, .slice v.n.a v.n.n v.n.c]
structure AnR (H : PHeap) (v : AnV) (x : AnX) : Prop where
  e : v.e = x.e
  size : v.size = x.size
  data : RdL H bE 1 v.d.a v.d.n (bytesL x.data)
  names : RdL H strE 1 v.n.a v.n.n x.names
theorem AnR.mono {H H' : PHeap} {v : AnV} {x : AnX} (h : AnR H v x) (hs : Sub H H') : AnR H' v x := ⟨h.e, h.size, h.data.mono hs, h.names.mono hs⟩
def plainX (x : AnX) : Prop := x.size = 0 ∧ x.data.size = 0 ∧ x.names = []
def keepOK (R : Poss) (s : ByteArray) (f : Ch → Option Ch) : Prop := ∃ y, R s y ∧ (f y).isSome
def keepS (R : Poss) (s : ByteArray) (f : Ch → Option Ch) : Poss := setR R s (keepR f (R s))
open Classical in
noncomputable def doneP (ops : List OpS) (R : Poss) (o : OpX) (x : AnX) : Prop :=
  if o.k = 1 then plainX x ∧ keepOK R o.s (putF o.d) else if o.k = 2 then x.size = 0 ∧ x.names = [] ∧ keepOK R o.s (getF x.data) else if o.k = 3 then plainX x ∧ keepOK R o.s delF
  else if o.k = 5 then x.data.size = 0 ∧ x.names = [] ∧ keepOK R o.s (statF x.size) else if o.k = 6 then plainX x ∧ keepOK R o.s thereF else okL ops R x.size x.data.size x.names
noncomputable def doneR (ops : List OpS) (R : Poss) (o : OpX) (x : AnX) : Poss :=
  if o.k = 1 then keepS R o.s (putF o.d) else if o.k = 2 then keepS R o.s (getF x.data) else if o.k = 3 then keepS R o.s delF else if o.k = 5 then keepS R o.s (statF x.size) else if o.k = 6 then keepS R o.s thereF else listR ops x.names R
def driftO (R : Poss) (o : OpX) : Poss := if o.k = 1 ∨ o.k = 3 then setR R o.s (driftR (decide (o.k = 1), o.d) (R o.s)) else R
open Classical in
noncomputable def fitsP (ops : List OpS) (R : Poss) (o : OpX) (x : AnX) : Prop :=
  if x.e = 0 then doneP ops R o x else plainX x ∧ (if x.e = 13 then True else if x.e = 11 ∨ x.e = 12 then o.k = 1 ∨ o.k = 6 else if x.e = 9 then o.k = 1 ∧ keepOK R o.s thereF else if x.e = 10 then o.k ≠ 1 ∧ o.k ≠ 4 ∧ keepOK R o.s noneF else False)
noncomputable def fitsR (ops : List OpS) (R : Poss) (o : OpX) (x : AnX) : Poss :=
  if x.e = 0 then doneR ops R o x else if x.e = 13 then driftO R o else if x.e = 11 ∨ x.e = 12 then R else if x.e = 9 then keepS R o.s thereF else keepS R o.s noneF
section
variable {T : Lib.PrintTabs} {F H : PHeap} {m : Nat} {sl : SlV} {ops : List OpS} {R : Poss} {ds D : List Fl}
/-- Where a possibility of the names' lies. -/
def InAll (ds D : List Fl) (R : Poss) : Prop := ∀ s z, R s z → InU ds D z
theorem plain_ok {v : AnV} {x : AnX} (h : AnR H v x) : Triple Tryd.prog 27 #[.agg (anE v).toArray] H fun u H' => ∃ b, u = .bool b ∧ (b = true ↔ plainX x) ∧ H' = H := by
  refine mPlain.vc v.e v.size v.d.a v.d.n v.d.c v.n.a v.n.n v.n.c H _ ⟨_, rfl, ?_, rfl⟩
  have h1 := bw_len h.data
  have h2 := h.names.len
  have h3 : x.names = [] ↔ v.n.n = 0 := ⟨fun e => by rw [e] at h2; simpa using h2.symm, fun e => List.eq_nil_of_length_eq_zero (by omega)⟩
  unfold plainX
  rw [h3, ← h.size, h1]
  simp only [Bool.cond_eq_ite]
  grind
/-- An answer by what is kept. -/
theorem keepA (hT : Tabs F T) (G : Good ds D) (hR : InAll ds D R) {H1 : PHeap} (h1 : MapK F H1 m sl ops R) {s : ByteArray} {fv : Value} {f : Ch → Option Ch} (hf : FnSpec H1 fv f) {p : Prop} {R' : Poss} {Q : Prop} (hp : p) (hq : Q ↔ p ∧ keepOK R s f) (hR' : R' = keepS R s f) :
    Triple Tryd.prog 39 #[.pointer (at0 m), .string s, fv] H1 fun v H' => ∃ b, v = .bool b ∧ ∃ b', Value.bool b = .bool b' ∧ (b' = true ↔ Q) ∧ MapK F H' m sl ops (if b' = true then R' else R) := by
  refine (keep_ok (hT.mono h1.sub) h1 G hR s hf).mono ?_
  rintro _ H' ⟨b, rfl, hb, hm⟩
  refine ⟨b, rfl, b, rfl, by rw [hb, hq]; exact ⟨fun h => ⟨hp, h⟩, fun h => h.2⟩, ?_⟩
  rw [hR']; exact hm
theorem done_ok (hT : Tabs F T) (h : MapK F H m sl ops R) (G : Good ds D) (hR : InAll ds D R) (hops : ops.length ≤ 1000) {ov : OpV} {o : OpX} (ho : OpR H ov o) {av : AnV} {x : AnX} (hx : AnR F av x) (hxn : av.n.n ≤ 1000) :
    Triple Tryd.prog 38 #[.pointer (at0 m), .agg (opE ov).toArray, .agg (anE av).toArray] H fun v H' => ∃ b, v = .bool b ∧ (b = true ↔ doneP ops R o x) ∧ MapK F H' m sl ops (if b = true then doneR ops R o x else R) := by
  obtain ⟨k, s, oa, on, oc⟩ := ov
  obtain ⟨rfl, rfl, hod⟩ := ho
  simp only at hod
  refine mDone.vc (at0 m) o.k o.s oa on oc av.e av.size av.d.a av.d.n av.d.c av.n.a av.n.n av.n.c H _ fun k15 hk15 k16 hk16 => ?_
  have s1 := Sub.upd (H := H) (.cells (opE ⟨o.k, o.s, oa, on, oc⟩).toArray 25 (0, 0)) hk15
  have s2 := Sub.upd (.cells (anE av).toArray 29 (0, 0)) hk16
  have b15 : Bx _ k15 25 (opE ⟨o.k, o.s, oa, on, oc⟩) := (Bx.new H k15 _ _).sub s2
  have b16 : Bx _ k16 29 (anE av) := Bx.new (H.upd k15 (.cells (opE ⟨o.k, o.s, oa, on, oc⟩).toArray 25 (0, 0))) k16 _ (anE av)
  have h2 := h.mono (s1.trans s2)
  have hx2 := hx.mono h2.sub
  have hod2 := hod.keep (TyK.sub (s1.trans s2))
  have hz1 := bw_len hx.data
  have hz2 : x.names = [] ↔ av.n.n = 0 := ⟨fun e => by have := hx.names.len; rw [e] at this; simpa using this.symm, fun e => List.eq_nil_of_length_eq_zero (by have := hx.names.len; omega)⟩
  have no : ∀ {H' : PHeap}, MapK F H' m sl ops R → ¬ doneP ops R o x → ∃ b, Value.bool false = .bool b ∧ (b = true ↔ doneP ops R o x) ∧ MapK F H' m sl ops (if b = true then doneR ops R o x else R) := fun hm hn => ⟨false, rfl, ⟨fun e => (by cases e), fun h => (hn h).elim⟩, hm⟩
  refine ⟨kcOb _, o.k, b15.fld (i := 0) rfl, fun e1 => ?_, fun e1 => ⟨fun e2 => ?_, fun e2 => ⟨fun e3 => ?_, fun e3 => ⟨fun e5 => ?_, fun e5 => ⟨fun e6 => ?_, fun e6 => ?_⟩⟩⟩⟩⟩
  · have k1 : o.k = 1 := by simpa using e1
    refine ⟨av.e, av.size, av.d.a, av.d.n, av.d.c, av.n.a, av.n.n, av.n.c, b16.reads, (plain_ok hx2).mono ?_⟩
    rintro _ _ ⟨b, rfl, hb, rfl⟩
    refine ⟨b, rfl, fun e => ⟨kcOb _, o.s, b15.fld (i := 1) rfl, keepA hT G hR h2 (put_sp b15 hod2) (hb.1 e) (by unfold doneP; rw [if_pos k1]) (by unfold doneR; rw [if_pos k1])⟩, fun e => no h2 fun hd => ?_⟩
    unfold doneP at hd; rw [if_pos k1] at hd; rw [hb.2 hd.1] at e; cases e
  · have k1 : ¬ o.k = 1 := by simpa using e1
    have k2 : o.k = 2 := by simpa using e2
    have eP : doneP ops R o x = (x.size = 0 ∧ x.names = [] ∧ keepOK R o.s (getF x.data)) := by unfold doneP; rw [if_neg k1, if_pos k2]
    refine ⟨kcOb _, av.size, b16.fld (i := 1) rfl, fun e => ⟨kcOb _, av.n.a, av.n.n, av.n.c, b16.fld (i := 3) rfl, fun e' => ⟨kcOb _, o.s, b15.fld (i := 1) rfl, keepA hT G hR h2 (get_sp (a := av.d) (b := av.n) b16 hx2.data) (p := x.size = 0 ∧ x.names = []) ⟨by rw [← hx.size]; simpa using e, hz2.2 (by simpa using e')⟩ (by rw [eP]; exact and_assoc.symm) (by unfold doneR; rw [if_neg k1, if_pos k2])⟩, fun e' => no h2 fun hd => ?_⟩, fun e => no h2 fun hd => ?_⟩
    · rw [eP] at hd; have := hz2.1 hd.2.1; rw [this] at e'; simp at e'
    · rw [eP] at hd; rw [hx.size, hd.1] at e; simp at e
  · have k1 : ¬ o.k = 1 := by simpa using e1
    have k2 : ¬ o.k = 2 := by simpa using e2
    have k3 : o.k = 3 := by simpa using e3
    have eP : doneP ops R o x = (plainX x ∧ keepOK R o.s delF) := by unfold doneP; rw [if_neg k1, if_neg k2, if_pos k3]
    refine ⟨av.e, av.size, av.d.a, av.d.n, av.d.c, av.n.a, av.n.n, av.n.c, b16.reads, (plain_ok hx2).mono ?_⟩
    rintro _ _ ⟨b, rfl, hb, rfl⟩
    refine ⟨b, rfl, fun e => ⟨kcOb _, o.s, b15.fld (i := 1) rfl, keepA hT G hR h2 (del_sp _) (hb.1 e) (by rw [eP]) (by unfold doneR; rw [if_neg k1, if_neg k2, if_pos k3])⟩, fun e => no h2 fun hd => ?_⟩
    rw [eP] at hd; rw [hb.2 hd.1] at e; cases e
  · have k1 : ¬ o.k = 1 := by simpa using e1
    have k2 : ¬ o.k = 2 := by simpa using e2
    have k3 : ¬ o.k = 3 := by simpa using e3
    have k5 : o.k = 5 := by simpa using e5
    have eP : doneP ops R o x = (x.data.size = 0 ∧ x.names = [] ∧ keepOK R o.s (statF x.size)) := by unfold doneP; rw [if_neg k1, if_neg k2, if_neg k3, if_pos k5]
    refine ⟨kcOb _, av.d.a, av.d.n, av.d.c, b16.fld (i := 2) rfl, fun e => ⟨kcOb _, av.n.a, av.n.n, av.n.c, b16.fld (i := 3) rfl, fun e' => ⟨kcOb _, o.s, b15.fld (i := 1) rfl, keepA hT G hR h2 (stat_sp (a := av.d) (b := av.n) (z := av.size) b16) (p := x.data.size = 0 ∧ x.names = []) ⟨by rw [hz1]; simpa using e, hz2.2 (by simpa using e')⟩ (by rw [eP, hx.size]; exact and_assoc.symm) (by unfold doneR; rw [if_neg k1, if_neg k2, if_neg k3, if_pos k5, hx.size])⟩, fun e' => no h2 fun hd => ?_⟩, fun e => no h2 fun hd => ?_⟩
    · rw [eP] at hd; have := hz2.1 hd.2.1; rw [this] at e'; simp at e'
    · rw [eP, hz1] at hd; rw [hd.1] at e; simp at e
  · have k1 : ¬ o.k = 1 := by simpa using e1
    have k2 : ¬ o.k = 2 := by simpa using e2
    have k3 : ¬ o.k = 3 := by simpa using e3
    have k5 : ¬ o.k = 5 := by simpa using e5
    have k6 : o.k = 6 := by simpa using e6
    have eP : doneP ops R o x = (plainX x ∧ keepOK R o.s thereF) := by unfold doneP; rw [if_neg k1, if_neg k2, if_neg k3, if_neg k5, if_pos k6]
    refine ⟨av.e, av.size, av.d.a, av.d.n, av.d.c, av.n.a, av.n.n, av.n.c, b16.reads, (plain_ok hx2).mono ?_⟩
    rintro _ _ ⟨b, rfl, hb, rfl⟩
    refine ⟨b, rfl, fun e => ⟨kcOb _, o.s, b15.fld (i := 1) rfl, keepA hT G hR h2 (there_sp _) (hb.1 e) (by rw [eP]) (by unfold doneR; rw [if_neg k1, if_neg k2, if_neg k3, if_neg k5, if_pos k6])⟩, fun e => no h2 fun hd => ?_⟩
    rw [eP] at hd; rw [hb.2 hd.1] at e; cases e
  · have k1 : ¬ o.k = 1 := by simpa using e1
    have k2 : ¬ o.k = 2 := by simpa using e2
    have k3 : ¬ o.k = 3 := by simpa using e3
    have k5 : ¬ o.k = 5 := by simpa using e5
    have k6 : ¬ o.k = 6 := by simpa using e6
    refine ⟨av.e, av.size, av.d.a, av.d.n, av.d.c, av.n.a, av.n.n, av.n.c, b16.reads, (list_ok hT h2 G hR hops hx.names hxn).mono ?_⟩
    rintro _ H' ⟨b, rfl, hb, hm⟩
    refine ⟨b, rfl, b, rfl, ?_, ?_⟩
    · rw [hb]; unfold doneP; rw [if_neg k1, if_neg k2, if_neg k3, if_neg k5, if_neg k6, hx.size, hz1]
    · unfold doneR; rw [if_neg k1, if_neg k2, if_neg k3, if_neg k5, if_neg k6]; exact hm
theorem fits_ok (hT : Tabs F T) (h : MapK F H m sl ops R) (G : Good ds D) (hR : InAll ds D R) (hops : ops.length ≤ 1000) {ov : OpV} {o : OpX} (ho : OpR H ov o) {av : AnV} {x : AnX} (hx : AnR F av x) (hxn : av.n.n ≤ 1000) :
    Triple Tryd.prog 26 #[.pointer (at0 m), .agg (opE ov).toArray, .agg (anE av).toArray] H fun v H' => ∃ b, v = .bool b ∧ (b = true ↔ fitsP ops R o x) ∧ MapK F H' m sl ops (if b = true then fitsR ops R o x else R) := by
  have hk := ho.k
  have hs := ho.s
  have he := hx.e
  have no : ∀ {H' : PHeap}, MapK F H' m sl ops R → ¬ fitsP ops R o x → ∃ b, Value.bool false = .bool b ∧ (b = true ↔ fitsP ops R o x) ∧ MapK F H' m sl ops (if b = true then fitsR ops R o x else R) := fun hm hn => ⟨false, rfl, ⟨fun e => (by cases e), fun h => (hn h).elim⟩, hm⟩
  refine mFits.vc (at0 m) ov.k ov.s ov.a ov.n ov.c av.e av.size av.d.a av.d.n av.d.c av.n.a av.n.n av.n.c H _ ⟨fun e0 => (done_ok hT h G hR hops ho hx hxn).mono ?_, fun e0 => (plain_ok (hx.mono h.sub)).mono ?_⟩
  · have x0 : x.e = 0 := by rw [← he]; simpa using e0
    rintro _ H' ⟨b, rfl, hb, hm⟩
    exact ⟨b, rfl, b, rfl, by rw [hb]; unfold fitsP; rw [if_pos x0], by unfold fitsR; rw [if_pos x0]; exact hm⟩
  have x0 : ¬ x.e = 0 := by rw [← he]; simpa using e0
  rintro _ _ ⟨b, rfl, hb, rfl⟩
  refine ⟨b, rfl, fun e1 => no h fun hf => ?_, fun e1 => ?_⟩
  · unfold fitsP at hf; rw [if_neg x0] at hf; rw [hb.2 hf.1] at e1; cases e1
  have hp : plainX x := hb.1 (by simpa using e1)
  refine ⟨fun e13 => (drift_ok h G hR ho).mono ?_, fun e13 => ⟨fun e11 => ?_, fun e11 => ⟨fun e9 => ⟨fun ek => ?_, fun ek => ?_⟩, fun e9 => ⟨fun e10 => ⟨fun ek => ⟨fun ek4 => ?_, fun ek4 => ?_⟩, fun ek => ?_⟩, fun e10 => ?_⟩⟩⟩⟩
  · have x13 : x.e = 13 := by rw [← he]; simpa using e13
    rintro _ H' ⟨rfl, hm⟩
    refine ⟨rfl, true, rfl, ⟨fun _ => ?_, fun _ => rfl⟩, ?_⟩
    · unfold fitsP; rw [if_neg x0, if_pos x13]; exact ⟨hp, trivial⟩
    · rw [if_pos rfl]; unfold fitsR driftO; rw [if_neg x0, if_pos x13]; exact hm
  all_goals have x13 : ¬ x.e = 13 := by rw [← he]; simpa using e13
  · have x11 : x.e = 11 ∨ x.e = 12 := by
      rw [← he]; simp only [Bool.cond_eq_ite] at e11; grind
    refine ⟨_, rfl, ?_, ?_⟩
    · unfold fitsP; rw [if_neg x0, if_neg x13, if_pos x11, ← hk]; simp only [Bool.cond_eq_ite]; grind
    · unfold fitsR; rw [if_neg x0, if_neg x13, if_pos x11, ite_self]; exact h
  all_goals have x11 : ¬ (x.e = 11 ∨ x.e = 12) := by
              rw [← he]; simp only [Bool.cond_eq_ite] at e11; grind
  · have x9 : x.e = 9 := by rw [← he]; simpa using e9
    have k1 : o.k = 1 := by rw [← hk]; simpa using ek
    rw [hs]
    exact keepA hT G hR h (there_sp _) (p := plainX x ∧ o.k = 1) ⟨hp, k1⟩ (by unfold fitsP; rw [if_neg x0, if_neg x13, if_neg x11, if_pos x9]; exact and_assoc.symm) (by unfold fitsR; rw [if_neg x0, if_neg x13, if_neg x11, if_pos x9])
  · have x9 : x.e = 9 := by rw [← he]; simpa using e9
    refine no h fun hf => ?_
    unfold fitsP at hf; rw [if_neg x0, if_neg x13, if_neg x11, if_pos x9, ← hk] at hf; rw [hf.2.1] at ek; simp at ek
  all_goals have x9 : ¬ x.e = 9 := by rw [← he]; simpa using e9
  · have x10 : x.e = 10 := by rw [← he]; simpa using e10
    have k1 : o.k ≠ 1 := by rw [← hk]; simpa using ek
    have k4 : o.k ≠ 4 := by rw [← hk]; simpa using ek4
    rw [hs]
    exact keepA hT G hR h (none_sp _) (p := plainX x ∧ o.k ≠ 1 ∧ o.k ≠ 4) ⟨hp, k1, k4⟩ (by unfold fitsP; rw [if_neg x0, if_neg x13, if_neg x11, if_neg x9, if_pos x10]; exact ⟨fun h => ⟨⟨h.1, h.2.1, h.2.2.1⟩, h.2.2.2⟩, fun h => ⟨h.1.1, h.1.2.1, h.1.2.2, h.2⟩⟩) (by unfold fitsR; rw [if_neg x0, if_neg x13, if_neg x11, if_neg x9])
  · have x10 : x.e = 10 := by rw [← he]; simpa using e10
    refine no h fun hf => ?_
    unfold fitsP at hf; rw [if_neg x0, if_neg x13, if_neg x11, if_neg x9, if_pos x10, ← hk] at hf
    exact hf.2.2.1 (by simpa using ek4)
  · have x10 : x.e = 10 := by rw [← he]; simpa using e10
    refine no h fun hf => ?_
    unfold fitsP at hf; rw [if_neg x0, if_neg x13, if_neg x11, if_neg x9, if_pos x10, ← hk] at hf
    exact hf.2.1 (by simpa using ek)
  · have x10 : ¬ x.e = 10 := by rw [← he]; simpa using e10
    refine no h fun hf => ?_
    unfold fitsP at hf; rw [if_neg x0, if_neg x13, if_neg x11, if_neg x9, if_neg x10] at hf
    exact hf.2
end
end Go.Mdl
