/- The document's model: what events mean for a name: the contract of 'steps'. -/
import Derived.Test.YtlhnepjidbofnaaGreatDoorMdlZ
namespace Go.Mdl
open Go.Vx Go.Vc Go.Proofs Go.Txt

structure SpX where
  kind : Int
  op : OpX
  an : AnX
structure SpV where
  kind : Int
  op : OpV
  an : AnV
def pE (v : SpV) : List Value := [.int .i64 v.kind, .int .i64 v.op.k, .string v.op.s, .slice v.op.a v.op.n v.op.c, .int .i64 v.an.e, .int .i64 v.an.size, .slice v.an.d.a v.an.d.n v.an.d.c, .slice v.an.n.a v.an.n.n v.an.n.c]
theorem pLen (v : SpV) : (pE v).length = 8 := rfl
theorem pOne (v : SpV) : ∀ u ∈ pE v, u.oneCell' = true := fun u hu => by simp [pE] at hu; rcases hu with rfl | rfl | rfl | rfl | rfl | rfl | rfl | rfl <;> rfl
theorem tStp : ElemT Tryz.prog 52 64 8 120 := .of (by kernel_rfl)
structure SpR (H : PHeap) (v : SpV) (x : SpX) : Prop where
  kind : v.kind = x.kind
  op : OpW H v.op x.op
  an : AnR H v.an x.an
  small : v.an.n.n ≤ 1000
theorem SpR.mono {H H' : PHeap} {v : SpV} {x : SpX} (hs : Sub H H') (h : SpR H v x) : SpR H' v x := ⟨h.kind, h.op.mono hs, h.an.mono hs, h.small⟩
def SpsR (H : PHeap) (vs : List SpV) (xs : List SpX) : Prop := vs.length = xs.length ∧ ∀ (i : Nat) (v : SpV) (x : SpX), vs[i]? = some v → xs[i]? = some x → SpR H v x
theorem SpsR.mono {H H' : PHeap} {vs : List SpV} {xs : List SpX} (hs : Sub H H') (h : SpsR H vs xs) : SpsR H' vs xs := ⟨h.1, fun i v x a b => (h.2 i v x a b).mono hs⟩
theorem SpsR.add {H : PHeap} {vs : List SpV} {xs : List SpX} (h : SpsR H vs xs) {v : SpV} {x : SpX} (hx : SpR H v x) : SpsR H (vs ++ [v]) (xs ++ [x]) := by
  refine ⟨by simp [h.1], fun i v' x' hv hx' => ?_⟩
  by_cases hi : i < vs.length
  · rw [List.getElem?_append_left hi] at hv
    rw [List.getElem?_append_left (by have := h.1; omega)] at hx'
    exact h.2 i v' x' hv hx'
  · rw [List.getElem?_append_right (by omega)] at hv
    rw [List.getElem?_append_right (by have := h.1; omega)] at hx'
    have hi1 := (List.getElem?_eq_some_iff.1 hv).1
    simp only [List.length_singleton] at hi1
    have ei : i = vs.length := by omega
    subst ei
    rw [h.1] at hx'
    simp at hv hx'
    subst hv hx'
    exact hx
/-- Events that are read. -/
structure EvL (H : PHeap) (a : Option Addr) (n : Nat) (l : List EvX) : Prop where
  out : ∃ vs, RdL H evE 10 a n vs ∧ vs.length = l.length ∧ ∀ (i : Nat) (v : EvW) (x : EvX), vs[i]? = some v → l[i]? = some x → EvR H v x
  dat : ∀ e ∈ l, e.op.d.size ≤ 1000000 ∧ (∀ s ∈ e.an.names, s.size ≤ 1000000) ∧ e.op.s.size ≤ 1000000
theorem EvR.mono {H H' : PHeap} {v : EvW} {x : EvX} (hs : Sub H H') (h : EvR H v x) : EvR H' v x := ⟨h.kind, h.id, h.op.mono hs, h.an.mono hs, h.small⟩
theorem EvL.mono {H H' : PHeap} {a : Option Addr} {n : Nat} {l : List EvX} (hs : Sub H H') (h : EvL H a n l) : EvL H' a n l := by
  obtain ⟨vs, h1, h2, h3⟩ := h.out; exact ⟨⟨vs, h1.mono hs, h2, fun i v x a b => (h3 i v x a b).mono hs⟩, h.dat⟩
theorem EvL.len {H : PHeap} {a : Option Addr} {n : Nat} {l : List EvX} (h : EvL H a n l) : l.length = n := by
  obtain ⟨vs, h1, h2, _⟩ := h.out; rw [← h2, h1.len]
theorem EvL.at {H : PHeap} {a : Option Addr} {n : Nat} {l : List EvX} (h : EvL H a n l) {i : Nat} {e : EvX} (he : l[i]? = some e) : ∃ v, EvR H v e ∧ Reads H (elemA a (i : Int) 10) (evE v) ∧ Ob (a ≠ none ∧ 0 ≤ (i : Int) ∧ (i : Int) < n) ∧ Ob (elemA a (i : Int) 10 ≠ none) := by
  obtain ⟨vs, h1, h2, h3⟩ := h.out
  have hi := (List.getElem?_eq_some_iff.1 he).1
  have hl := h.len
  obtain ⟨v, hv, hr⟩ := h1.ex (i := (i : Int)) (by omega) (by omega)
  rw [Int.toNat_natCast] at hv
  exact ⟨v, h3 i v e hv he, hr, h1.ob (by omega) (by omega), ⟨h1.elem_ne (by omega) (by omega)⟩⟩
def an0 : AnX := ⟨0, 0, ⟨#[]⟩, []⟩
def op0 : OpX := ⟨0, ⟨#[]⟩, ⟨#[]⟩⟩
open Classical in
noncomputable def evStepO (ops : List OpS) (name : ByteArray) (o : OpS) (e : EvX) : List SpX :=
  if 2 < e.kind ∧ o.began = true then (if o.op.k ≠ 4 ∧ o.op.s = name then (if (o.op.k = 1 ∨ o.op.k = 3) ∧ (e.kind = 4 ∨ e.an.e = 13) then [⟨1, o.op, an0⟩] else if e.kind = 3 then [⟨2, o.op, e.an⟩] else [])
    else if o.op.k = 4 ∧ e.kind = 3 ∧ e.an.e = 0 ∧ calledS ops name then [⟨3, op0, e.an⟩] else []) else []
/-- What an event means for a name. -/
noncomputable def evStep (ops : List OpS) (name : ByteArray) (e : EvX) : List SpX := match ops[e.id.toNat]? with
  | some o => evStepO ops name o e
  | none => []
def opsAt (l : List EvX) (i : Nat) : List OpS := (l.take i).foldl stepOps []
def okAt (l : List EvX) (i : Nat) : Prop := ∀ j e, j < i → l[j]? = some e → orderP (opsAt l j) e
noncomputable def stsAt (l : List EvX) (name : ByteArray) (i : Nat) : List SpX := (List.range i).flatMap fun j => match l[j]? with | some e => evStep (opsAt l j) name e | none => []
theorem opsAt_succ {l : List EvX} {i : Nat} {e : EvX} (he : l[i]? = some e) : opsAt l (i + 1) = stepOps (opsAt l i) e := by
  unfold opsAt; rw [List.take_add_one, he]; simp
theorem okAt_succ {l : List EvX} {i : Nat} {e : EvX} (he : l[i]? = some e) : okAt l (i + 1) ↔ okAt l i ∧ orderP (opsAt l i) e := by
  constructor
  · exact fun h => ⟨fun j x hj hx => h j x (by omega) hx, h i e (by omega) he⟩
  · rintro ⟨h1, h2⟩ j x hj hx
    by_cases e1 : j = i
    · subst e1; rw [he] at hx; cases hx; exact h2
    · exact h1 j x (by omega) hx
theorem stsAt_succ {l : List EvX} {name : ByteArray} {i : Nat} {e : EvX} (he : l[i]? = some e) : stsAt l name (i + 1) = stsAt l name i ++ evStep (opsAt l i) name e := by
  unfold stsAt; rw [List.range_succ, List.flatMap_append]; simp [he]
theorem evStep_len (ops : List OpS) (name : ByteArray) (e : EvX) : (evStep ops name e).length ≤ 1 := by
  unfold evStep
  split
  · unfold evStepO; repeat' split
    all_goals simp
  · simp
theorem stsAt_len {l : List EvX} {name : ByteArray} : ∀ i, (stsAt l name i).length ≤ i
  | 0 => by simp [stsAt]
  | i + 1 => by
    have := stsAt_len (l := l) (name := name) i
    unfold stsAt at this ⊢
    rw [List.range_succ, List.flatMap_append, List.length_append]
    simp only [List.flatMap_cons, List.flatMap_nil, List.append_nil]
    split
    · rename_i e _
      have := evStep_len (opsAt l i) name e; omega
    · simp only [List.length_nil]; omega
theorem stepOps_len {ops : List OpS} {e : EvX} : (stepOps ops e).length ≤ ops.length + 1 := by
  unfold stepOps; repeat' split
  all_goals simp
theorem opsAt_len {l : List EvX} : ∀ i, (opsAt l i).length ≤ i
  | 0 => by simp [opsAt]
  | i + 1 => by
    cases he : l[i]? with
    | some e => rw [opsAt_succ he]; have := stepOps_len (ops := opsAt l i) (e := e); have := opsAt_len (l := l) i; omega
    | none =>
      have e1 : opsAt l (i + 1) = opsAt l i := by unfold opsAt; rw [List.take_add_one, he]; simp
      rw [e1]; have := opsAt_len (l := l) i; omega
theorem mem_modify {α : Type} {l : List α} {i : Nat} {g : α → α} {o : α} (h : o ∈ l.modify i g) : o ∈ l ∨ ∃ o' ∈ l, o = g o' := by
  obtain ⟨j, hj⟩ := List.mem_iff_getElem?.1 h
  rw [List.getElem?_modify] at hj
  cases hl : l[j]? with
  | none => rw [hl] at hj; simp at hj
  | some x =>
    rw [hl] at hj; simp at hj
    have := List.mem_of_getElem? hl
    split at hj
    · exact .inr ⟨x, this, hj.symm⟩
    · exact .inl (by subst hj; exact this)
theorem opsAt_op {l : List EvX} : ∀ i, ∀ o ∈ opsAt l i, ∃ e ∈ l, e.kind = 1 ∧ o.op = e.op
  | 0, o, h => by simp [opsAt] at h
  | i + 1, o, h => by
    have ih := opsAt_op (l := l) i
    cases he : l[i]? with
    | some e =>
      rw [opsAt_succ he] at h
      have hm : ∀ g : OpS → OpS, (∀ o, (g o).op = o.op) → o ∈ (opsAt l i).modify e.id.toNat g → ∃ e ∈ l, e.kind = 1 ∧ o.op = e.op := fun g hg h => by
        rcases mem_modify h with h | ⟨o', h, e⟩
        · exact ih o h
        · rw [e, hg]; exact ih o' h
      unfold stepOps at h
      split at h
      · rcases List.mem_append.1 h with h | h
        · exact ih o h
        · simp at h; exact ⟨e, List.mem_of_getElem? he, by assumption, by rw [h]⟩
      · split at h
        · exact hm beginS (fun _ => rfl) h
        · exact hm overS (fun _ => rfl) h
    | none =>
      have e1 : opsAt l (i + 1) = opsAt l i := by unfold opsAt; rw [List.take_add_one, he]; simp
      rw [e1] at h; exact ih o h
/-- The steps that were made: all else that is known lies in F. -/
structure StepsK (H H' : PHeap) (u : SlV) (l : List SpX) : Prop where
  out : ∃ F vs, Sub H F ∧ Sub F H' ∧ Off F u.a ∧ OwnL H' 64 pE 8 u.a u.n u.c vs ∧ SpsR F vs l
theorem steps_ok {H : PHeap} {a : Option Addr} {n c : Nat} {l : List EvX} (h : EvL H a n l) (hn : n ≤ 500) (name : ByteArray) :
    Triple Tryz.prog 16 #[.slice a n c, .string name] H fun v H' => ∃ (u : SlV) (b : Bool), v = .tuple #[slV u, .bool b] ∧ (b = true ↔ okAt l n) ∧ Sub H H' ∧ (b = true → StepsK H H' u (stsAt l name n)) := by
  have hln := h.len
  refine rSteps.vc a n c name H _ ⟨fun t H' => match t with | [.slice oa on _, .slice ua un uc, .int _ i] => 0 ≤ i ∧ i ≤ n ∧ okAt l i.toNat ∧ ∃ F vs, Sub H F ∧ Sub F H' ∧ OpL F oa on (opsAt l i.toNat) ∧ Off F ua ∧ OwnL H' 64 pE 8 ua un uc vs ∧ SpsR F vs (stsAt l name i.toNat) | _ => False,
    fun t _ => match t with | [_, _, .int _ i] => (n - i).toNat | _ => 0, ⟨by omega, by omega, fun j e hj => by simp at hj, H, [], Sub.refl _, Sub.refl _, ⟨[], .nil _ _ _, by simp [OpsW, opsAt]⟩, .none _, Owns.nil _ _ _, by simp [SpsR, stsAt]⟩, ?_⟩
  rintro oa on oc ua un uc i H1 ⟨i0, i1, hok, F, vs, hs0, hs1, hop, hoff, how, hst⟩
  obtain ⟨i, rfl⟩ : ∃ j : Nat, i = j := ⟨i.toNat, by omega⟩
  rw [Int.toNat_natCast] at hok hop hst
  refine ⟨fun hi => ?_, fun hi => ?_⟩
  · have hi' : i < n := by simpa using hi
    have ew : IntKind.i64.wrap ((i : Int) + 1) = (i : Int) + 1 := wrap64 (by omega) (by omega)
    have ei : ((i : Int) + 1).toNat = i + 1 := by omega
    have he : l[i]? = some l[i] := List.getElem?_eq_getElem (by omega)
    have hdat := h.dat _ (List.getElem_mem (l := l) (n := i) (by omega))
    generalize l[i] = e at he hdat
    obtain ⟨w, hw, hr, hob, _⟩ := (h.mono hs0).at he
    have hsz := hop.len
    have hol := opsAt_len (l := l) i
    refine ⟨hob, w.kind, w.id, w.ballot, w.op.k, w.op.s, w.op.a, w.op.n, w.op.c, w.an.e, w.an.size, w.an.d.a, w.an.d.n, w.an.d.c, w.an.n.a, w.an.n.n, w.an.n.c, hr.mono hs1, (Triple.ro (R := fun v F' => ∃ (u : SlV) (b : Bool), v = .tuple #[slV u, .bool b] ∧ (b = true ↔ orderP (opsAt l i) e) ∧ (b = true → OpL F' u.a u.n (stepOps (opsAt l i) e))) ((order_ok (c := oc) hop (by omega) (fun o ho => ?_) hw hdat.2.1).mono ?_) hs1).mono ?_⟩
    · obtain ⟨e', he', _, eq⟩ := opsAt_op i o ho
      rw [eq]; exact (h.dat e' he').1
    · rintro _ _ ⟨u, b, g1, g2, g3, g4⟩; exact ⟨⟨u, b, g1, g2, g4⟩, g3⟩
    rintro _ H2 ⟨F2, ⟨u, b, rfl, hb, hu⟩, st⟩
    have hs2 := st.hsub hs1
    have hf2 := st.fsub
    have hs02 := hs0.trans hf2
    refine ⟨u.a, u.n, u.c, b, rfl, fun eb => ⟨⟨none, 0, 0⟩, false, rfl, ⟨fun e => by (cases e), fun hh => ?_⟩, hs02.trans st.sub, fun e => by cases e⟩, fun eb => ?_⟩
    · have := hb.2 (hh i e hi' he); rw [this] at eb; cases eb
    have bt : b = true := by simpa using eb
    have hu := hu bt
    rw [← opsAt_succ he] at hu
    have hok2 : okAt l (i + 1) := (okAt_succ he).2 ⟨hok, hb.1 bt⟩
    have hw2 := hw.mono hf2
    have hop2 := hop.mono hf2
    have how2 : OwnL H2 64 pE 8 ua un uc vs := how.mono fun a o _ ho => hs2.le _ _ ho
    have hoff2 := st.off hoff how
    have hst2 := hst.mono hf2
    have hul : un ≤ i := by have h1 := stsAt_len (l := l) (name := name) i; have h2 := (how2.rd (E := pE) (sz := 8) (by omega) pLen).len; have := hst2.1; omega
    have hss := stsAt_succ (name := name) he
    have hsub2 := st.sub
    -- what goes on without a step
    have same : evStep (opsAt l i) name e = [] → (0 ≤ (i : Int) + 1 ∧ (i : Int) + 1 ≤ n ∧ okAt l ((i : Int) + 1).toNat ∧ ∃ F vs, Sub H F ∧ Sub F H2 ∧ OpL F u.a u.n (opsAt l ((i : Int) + 1).toNat) ∧ Off F ua ∧ OwnL H2 64 pE 8 ua un uc vs ∧ SpsR F vs (stsAt l name ((i : Int) + 1).toNat)) ∧ Less ((n - ((i : Int) + 1)).toNat) ((n - (i : Int)).toNat) := fun hev => by
      rw [ei, hss, hev, List.append_nil]
      exact ⟨⟨by omega, by omega, hok2, F2, vs, hs02, hsub2, hu, hoff2, how2, hst2⟩, ⟨by omega⟩⟩
    -- what goes on with one
    have more : ∀ {k : Nat} {sv : SpV} {sx : SpX} {ca : Array Value} {K : Value → PHeap → Prop}, H2 k = none → ca.toList = pE sv → SpR F2 sv sx → evStep (opsAt l i) name e = [sx] →
        (∀ a' n' c' H4, (0 ≤ (i : Int) + 1 ∧ (i : Int) + 1 ≤ n ∧ okAt l ((i : Int) + 1).toNat ∧ ∃ F vs, Sub H F ∧ Sub F H4 ∧ OpL F u.a u.n (opsAt l ((i : Int) + 1).toNat) ∧ Off F a' ∧ OwnL H4 64 pE 8 a' n' c' vs ∧ SpsR F vs (stsAt l name ((i : Int) + 1).toNat)) ∧ Less ((n - ((i : Int) + 1)).toNat) ((n - (i : Int)).toNat) → K (.slice a' n' c') H4) →
        EvV Tryz.prog (Builtin.append_ #[52, 52] 52 #[.slice ua un uc, .slice (at0 k) 1 1]) (H2.upd k (.cells ca 64 (0, 0))) K := fun {k sv sx ca K} hk hca hsr hev hK => by
      refine append_one tStp (E := pE) (x := sv) hk pLen how2 hca (pOne _) (by simp [maxLen]; omega) (by omega) ?_
      intro a' c' H4 how4 hf4 hfr4 _
      refine hK a' (un + 1) c' H4 ?_
      rw [ei, hss, hev]
      exact ⟨⟨by omega, by omega, hok2, F2, vs ++ [sv], hs02, hf4.sub hsub2 hoff2, hu, hfr4.off hsub2 hoff2, how4, hst2.add hsr⟩, ⟨by omega⟩⟩
    have hk := hw2.kind
    have hid := hw2.id
    have hee := hw2.an.e
    rw [ew]
    refine ⟨hob, w.kind, w.id, w.ballot, w.op.k, w.op.s, w.op.a, w.op.n, w.op.c, w.an.e, w.an.size, w.an.d.a, w.an.d.n, w.an.d.c, w.an.n.a, w.an.n.n, w.an.n.c, hr.mono (hf2.trans hsub2), fun e1 => ?_, fun e1 => same ?_⟩
    · have k2 : 2 < e.kind := by rw [← hk]; exact of_decide_eq_true e1
      have hPo := hb.1 bt
      obtain ⟨p, o, hp, ho⟩ : ∃ (p : Nat) (o : OpS), e.id = p ∧ (opsAt l i)[p]? = some o := by
        rcases hPo with ⟨h1, _⟩ | ⟨_, h0, o, ho, _⟩
        · omega
        · exact ⟨e.id.toNat, o, by omega, ho⟩
      rw [hid, hp]
      have hlist : evStep (opsAt l i) name e = evStepO (opsAt l i) name o e := by unfold evStep; rw [hp, Int.toNat_natCast, ho]
      obtain ⟨v, hv, hrv, hobv, henv⟩ := (hop.mono hf2).at ho
      have hf := rd_k (hrv.mono hsub2)
      have e3 := hv.op.k
      have e4 : eqS v.op.s name = decide (o.op.s = name) := by
        rw [hv.op.s]
        cases hq : eqS o.op.s name with
        | true => exact (decide_eq_true (eqS_iff.1 hq)).symm
        | false => exact (decide_eq_false (eqS_false.1 hq)).symm
      have ebo := hv.began
      rw [hlist] at same more
      refine ⟨hobv, henv, v.began, hf.2.2.2.1, fun eb => ⟨hobv, henv, v.op.k, v.op.s, v.op.a, v.op.n, v.op.c, hf.2.2.1, fun c1 k hk0 => ?_, fun c1 => ⟨fun c2 k hk0 => ?_, fun c2 => ⟨fun c3 => ⟨fun c4 => ⟨fun c5 => (called_ok (c := oc) ((hop.mono hf2).mono hsub2) (by omega) name).mono ?_, fun c5 => same ?_⟩, fun c4 => same ?_⟩, fun c3 => same ?_⟩⟩⟩, fun eb => same ?_⟩
      · refine more hk0 (sv := ⟨1, v.op, ⟨0, 0, ⟨none, 0, 0⟩, ⟨none, 0, 0⟩⟩⟩) (sx := ⟨1, o.op, an0⟩) rfl ⟨rfl, hv.op, ⟨rfl, rfl, RdL.nil _ _ _, RdL.nil _ _ _⟩, by simp⟩ ?_ fun a' n' c' H4 hh => ⟨a', n', c', rfl, hh.1, hh.2⟩
        unfold evStepO; simp only [Bool.cond_eq_ite, e3, e4, hk, hee] at c1; grind
      · refine more hk0 (sv := ⟨2, v.op, w.an⟩) (sx := ⟨2, o.op, e.an⟩) rfl ⟨rfl, hv.op, hw2.an, hw2.small⟩ ?_ fun a' n' c' H4 hh => ⟨a', n', c', rfl, hh.1, hh.2⟩
        unfold evStepO; simp only [Bool.cond_eq_ite, e3, e4, hk, hee] at c1 c2; grind
      · rintro _ _ ⟨bc, rfl, hbc, rfl⟩
        refine ⟨bc, rfl, fun c6 k hk0 => ?_, fun c6 => same ?_⟩
        · refine more hk0 (sv := ⟨3, ⟨0, ⟨#[]⟩, none, 0, 0⟩, w.an⟩) (sx := ⟨3, op0, e.an⟩) rfl ⟨rfl, ⟨rfl, rfl, RdL.nil _ _ _⟩, hw2.an, hw2.small⟩ ?_ fun a' n' c' H4 hh => ⟨a', n', c', rfl, hh.1, hh.2⟩
          have := hbc.1 c6
          unfold evStepO; simp only [Bool.cond_eq_ite, e3, e4, hk, hee] at c1 c2; grind
        · have : ¬ calledS (opsAt l i) name := fun h => by rw [hbc.2 h] at c6; cases c6
          unfold evStepO; simp only [Bool.cond_eq_ite, e3, e4, hk, hee] at c1 c2; grind
      · unfold evStepO; simp only [Bool.cond_eq_ite, e3, e4, hk, hee] at c1 c2; grind
      · unfold evStepO; simp only [Bool.cond_eq_ite, e3, e4, hk, hee] at c1 c2; grind
      · unfold evStepO; simp only [Bool.cond_eq_ite, e3, e4, hk, hee] at c1 c2; grind
      · unfold evStepO; grind
    · unfold evStep
      split
      · unfold evStepO
        rw [if_neg]
        intro hh
        have := of_decide_eq_false e1
        omega
      · rfl
  · have : ¬ i < n := by simpa using hi
    have ein : i = n := by omega
    subst ein
    exact ⟨⟨ua, un, uc⟩, true, rfl, ⟨fun _ => hok, fun _ => rfl⟩, hs0.trans hs1, fun _ => ⟨F, vs, hs0, hs1, hoff, how, hst⟩⟩
end Go.Mdl
