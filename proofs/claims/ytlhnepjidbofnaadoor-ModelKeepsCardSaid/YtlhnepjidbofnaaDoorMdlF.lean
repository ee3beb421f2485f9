/- The map of possibilities in memory: operations, and what may be of each name; looking at a name, and saying it. -/
import Derived.Test.YtlhnepjidbofnaaDoorMdlE
namespace Go.Mdl
open Go.Vx Go.Vc Go.Proofs

/-- Rows that nothing writes once they are told. -/
def typ (t : TypeId) : Prop := t = 62 ∨ t = 71 ∨ t = 5
def TyK (H H' : PHeap) : Prop := ∀ b c t r, typ t → H b = some (.cells c t r) → H' b = some (.cells c t r)
theorem TyK.refl (H : PHeap) : TyK H H := fun _ _ _ _ _ h => h
theorem TyK.sub {H H' : PHeap} (h : Sub H H') : TyK H H' := fun _ _ _ _ _ hk => h.le _ _ hk
theorem TyK.trans {H H' H'' : PHeap} (h : TyK H H') (h' : TyK H' H'') : TyK H H'' := fun b c t r ht hk => h' _ _ _ _ ht (h _ _ _ _ ht hk)
theorem TyK.upd {H : PHeap} {b : Nat} {o : Obj} (h : ∀ c t r, H b = some (.cells c t r) → ¬ typ t) : TyK H (H.upd b o) := fun k c t r ht hk => by
  rw [upd_ne _ _ fun e => by rw [e] at hk; exact h _ _ _ hk ht]; exact hk
theorem TyK.flk {H H' : PHeap} (h : TyK H H') : FlK H H' := fun b c r hk => h _ _ _ _ (.inr (.inl rfl)) hk
theorem part_ty {α : Type} {H H' : PHeap} {E : α → List Value} {sz : Nat} {a : Option Addr} {n : Nat} {l : List α} {t : TypeId} (hk : TyK H H') (ht : typ t) (hl : RdL H E sz a n l) (hy : ∀ a', a = some a' → ∃ c r, H a'.block = some (.cells c t r)) : RdL H' E sz a n l :=
  hl.part fun a' o ha ho => by obtain ⟨c, r, hc⟩ := hy a' ha; rw [hc] at ho; cases ho; exact hk _ _ _ _ ht hc
theorem ty_ty {H H' : PHeap} {a : Option Addr} {t : TypeId} (hk : TyK H H') (ht : typ t) (hy : ∀ a', a = some a' → ∃ c r, H a'.block = some (.cells c t r)) : ∀ a', a = some a' → ∃ c r, H' a'.block = some (.cells c t r) := fun a' ha => by
  obtain ⟨c, r, hc⟩ := hy a' ha; exact ⟨c, r, hk _ _ _ _ ht hc⟩
theorem own_ty {H : PHeap} {t : TypeId} {sz : Nat} {a : Option Addr} {n c : Nat} {xs : List Value} (h : Owns H t sz a n c xs) : ∀ a', a = some a' → ∃ c r, H a'.block = some (.cells c t r) := fun a' ha => by
  rcases h.row with ⟨e1, _⟩ | ⟨g, cur, e1, hg, _⟩
  · rw [e1] at ha; cases ha
  · rw [e1] at ha; cases ha; exact ⟨cur, _, hg⟩
/-- A slice. -/
structure SlV where
  a : Option Addr
  n : Nat
  c : Nat
def slV (v : SlV) : Value := .slice v.a v.n v.c
structure ChL (H : PHeap) (v : SlV) (xs : List Ch) : Prop where
  out : ∃ vs, RdL H cE 3 v.a v.n vs ∧ Rel H vs xs ∧ ∀ a, v.a = some a → ∃ c r, H a.block = some (.cells c 62 r)
theorem ChL.keep {H H' : PHeap} {v : SlV} {xs : List Ch} (hk : TyK H H') (h : ChL H v xs) : ChL H' v xs := by
  obtain ⟨vs, h1, h2, h3⟩ := h.out
  exact ⟨vs, part_ty hk (.inl rfl) h1 h3, h2.keep hk.flk, ty_ty hk (.inl rfl) h3⟩
structure BL (H : PHeap) (a : Option Addr) (n : Nat) (d : ByteArray) : Prop where
  rd : RdL H bE 1 a n (bytesL d)
  ty : ∀ a', a = some a' → ∃ c r, H a'.block = some (.cells c 5 r)
theorem BL.keep {H H' : PHeap} {a : Option Addr} {n : Nat} {d : ByteArray} (hk : TyK H H') (h : BL H a n d) : BL H' a n d := ⟨part_ty hk (.inr (.inr rfl)) h.rd h.ty, ty_ty hk (.inr (.inr rfl)) h.ty⟩
theorem BL.len {H : PHeap} {a : Option Addr} {n : Nat} {d : ByteArray} (h : BL H a n d) : d.size = n := by have := h.rd.len; rwa [bytesL_len] at this

/-! ### Operations -/
structure OpX where
  k : Int
  s : ByteArray
  d : ByteArray
structure OpV where
  k : Int
  s : ByteArray
  a : Option Addr
  n : Nat
  c : Nat
def opE (v : OpV) : List Value := [.int .i64 v.k, .string v.s, .slice v.a v.n v.c]
structure OpR (H : PHeap) (v : OpV) (x : OpX) : Prop where
  k : v.k = x.k
  s : v.s = x.s
  d : BL H v.a v.n x.d
theorem OpR.keep {H H' : PHeap} {v : OpV} {x : OpX} (hk : TyK H H') (h : OpR H v x) : OpR H' v x := ⟨h.k, h.s, h.d.keep hk⟩
/-- .. as an event tells it. -/
structure OpW (H : PHeap) (v : OpV) (x : OpX) : Prop where
  k : v.k = x.k
  s : v.s = x.s
  d : RdL H bE 1 v.a v.n (bytesL x.d)
theorem OpR.w {H : PHeap} {v : OpV} {x : OpX} (h : OpR H v x) : OpW H v x := ⟨h.k, h.s, h.d.rd⟩
theorem OpW.mono {H H' : PHeap} {v : OpV} {x : OpX} (hs : Sub H H') (h : OpW H v x) : OpW H' v x := ⟨h.k, h.s, h.d.mono hs⟩
theorem bw_len {H : PHeap} {a : Option Addr} {n : Nat} {d : ByteArray} (h : RdL H bE 1 a n (bytesL d)) : d.size = n := by have := h.len; rwa [bytesL_len] at this
structure OpS where
  op : OpX
  began : Bool
  over : Bool
structure OsV where
  op : OpV
  began : Bool
  over : Bool
def oE (v : OsV) : List Value := [.int .i64 v.op.k, .string v.op.s, .slice v.op.a v.op.n v.op.c, .bool v.began, .bool v.over]
theorem oLen (v : OsV) : (oE v).length = 5 := rfl
theorem oOne (v : OsV) : ∀ u ∈ oE v, u.oneCell' = true := fun u hu => by simp [oE] at hu; rcases hu with rfl | rfl | rfl | rfl | rfl <;> rfl
theorem tOp : ElemT Tryd.prog 34 49 5 56 := .of (by kernel_rfl)
structure OsR (H : PHeap) (v : OsV) (x : OpS) : Prop where
  op : OpR H v.op x.op
  began : v.began = x.began
  over : v.over = x.over
theorem OsR.keep {H H' : PHeap} {v : OsV} {x : OpS} (hk : TyK H H') (h : OsR H v x) : OsR H' v x := ⟨h.op.keep hk, h.began, h.over⟩
def OpsR (H : PHeap) (vs : List OsV) (xs : List OpS) : Prop := vs.length = xs.length ∧ ∀ (i : Nat) (v : OsV) (x : OpS), vs[i]? = some v → xs[i]? = some x → OsR H v x
theorem OpsR.keep {H H' : PHeap} {vs : List OsV} {xs : List OpS} (hk : TyK H H') (h : OpsR H vs xs) : OpsR H' vs xs := ⟨h.1, fun i v x a b => (h.2 i v x a b).keep hk⟩

/-! ### The map -/
def c0 : Ch := ⟨false, ⟨#[]⟩, []⟩
abbrev Poss := ByteArray → Ch → Prop
/-- What the map of names tells, is R. -/
structure NamesR (F H : PHeap) (mr : Option Nat) (R : Poss) : Prop where
  out : ∃ (ml : List (ByteArray × SlV)) (f : ByteArray → List Ch), (∀ mb, mr = some mb → F mb = none ∧ Mp H mb Value.string slV ml) ∧ (mr = none → ml = []) ∧
    (∀ s z, R s z ↔ ∃ x ∈ f s, Reach x z) ∧ (∀ s, (f s).length ≤ 5000) ∧ (∀ s, mlook ml s = none → f s = [c0]) ∧ ∀ s v, mlook ml s = some v → ChL H v (f s)
theorem NamesR.keep {F H H' : PHeap} {mr : Option Nat} {R : Poss} (hk : TyK H H') (hm : ∀ mb, mr = some mb → ∀ o, H mb = some o → H' mb = some o) (h : NamesR F H mr R) : NamesR F H' mr R := by
  obtain ⟨ml, f, h1, h2, h3, h4, h5, h6⟩ := h.out
  exact ⟨ml, f, fun mb e => ⟨(h1 mb e).1, (h1 mb e).2.mono (hm mb e)⟩, h2, h3, h4, h5, fun s v hv => (h6 s v hv).keep hk⟩
structure MapK (F H : PHeap) (m : Nat) (sl : SlV) (ops : List OpS) (R : Poss) : Prop where
  sub : Sub F H
  o : F m = none
  row : ∃ oa n c vs mr, sl = ⟨oa, n, c⟩ ∧ Bx H m 37 [.slice oa n c, .map mr] ∧ Off F oa ∧ OwnL H 49 oE 5 oa n c vs ∧ OpsR H vs ops ∧ NamesR F H mr R
theorem MapK.mono {F H H' : PHeap} {m : Nat} {sl : SlV} {ops : List OpS} {R : Poss} (h : MapK F H m sl ops R) (hs : Sub H H') : MapK F H' m sl ops R := by
  obtain ⟨oa, n, c, vs, mr, hsl, h1, h2, h3, h4, h5⟩ := h.row
  exact ⟨h.sub.trans hs, h.o, oa, n, c, vs, mr, hsl, h1.sub hs, h2, h3.mono fun a o _ ho => hs.le _ _ ho, h4.keep (TyK.sub hs), h5.keep (TyK.sub hs) fun mb _ o ho => hs.le _ _ ho⟩
theorem MapK.ob {m : Nat} : Ob (at0 m ≠ none) := ⟨by simp [at0]⟩
theorem mapN : MapT Tryd.prog 35 (Value.string) (slV ⟨none, 0, 0⟩) := ⟨9, 57, .string, by kernel_rfl, by kernel_rfl, by kernel_rfl, fun _ => trivial, fun a b h => by injection h⟩
theorem cells1 {H : PHeap} {k : Nat} {v : Cv} (h : Bx H k 62 (cE v)) : RdL H cE 3 (at0 k) 1 [v] := by
  have := Bx.rd (l := [v]) cLen (by simpa using h)
  exact this
/-- What may be of a name. -/
theorem of_ok {F H : PHeap} {m : Nat} {sl : SlV} {ops : List OpS} {R : Poss} (h : MapK F H m sl ops R) (s : ByteArray) :
    Triple Tryd.prog 19 #[.pointer (at0 m), .string s] H fun v H' => ∃ u xs, v = slV u ∧ ChL H' u xs ∧ (∀ z, R s z ↔ ∃ x ∈ xs, Reach x z) ∧ xs.length ≤ 5000 ∧ Sub H H' := by
  obtain ⟨oa, n, c, vs, mr, hsl, h1, h2, h3, h4, h5⟩ := h.row
  obtain ⟨ml, f, g1, g2, g3, g4, g5, g6⟩ := h5.out
  have hx := MapK.ob (m := m)
  refine mOf.vc (at0 m) s H _ ⟨hx, hx, mr, h1.fld (i := 1) rfl, ?_⟩
  have new : ∀ k9, H k9 = none → mlook ml s = none → ∃ u xs, Value.slice (at0 k9) 1 1 = slV u ∧ ChL (H.upd k9 (.cells #[.bool false, .string ⟨#[]⟩, .slice none 0 0] 62 (0, 0))) u xs ∧ (∀ z, R s z ↔ ∃ x ∈ xs, Reach x z) ∧ xs.length ≤ 5000 ∧ Sub H (H.upd k9 (.cells #[.bool false, .string ⟨#[]⟩, .slice none 0 0] 62 (0, 0))) := fun k9 hk hn => by
    have hb : Bx (H.upd k9 (.cells #[.bool false, .string ⟨#[]⟩, .slice none 0 0] 62 (0, 0))) k9 62 (cE ⟨false, ⟨#[]⟩, none, 0, 0⟩) := Bx.new _ k9 _ (cE ⟨false, ⟨#[]⟩, none, 0, 0⟩)
    refine ⟨⟨at0 k9, 1, 1⟩, f s, rfl, ?_, g3 s, g4 s, Sub.upd _ hk⟩
    rw [g5 s hn]
    exact ⟨[⟨false, ⟨#[]⟩, none, 0, 0⟩], cells1 hb, ⟨rfl, fun i v x hv hx => by
      match i, hv, hx with
      | 0, hv, hx => simp at hv hx; subst hv hx; exact ⟨rfl, rfl, RdL.nil .., fun a ha => by cases ha⟩
      | i + 1, hv, _ => simp at hv⟩, fun a ha => by cases ha; exact ⟨_, _, hb⟩⟩
  cases mr with
  | none =>
    have hml := g2 rfl
    have hn : mlook ml s = none := by rw [hml]; rfl
    refine map_get_nil mapN ⟨none, 0, 0, false, rfl, (fun e => by cases e), fun _ k9 hk => new k9 hk hn⟩
  | some mb =>
    have hmp := (g1 mb rfl).2
    cases hl : mlook ml s with
    | none =>
      refine map_get mapN hmp (k := s) ?_
      rw [hl]
      exact ⟨none, 0, 0, false, rfl, (fun e => by cases e), fun _ k9 hk => new k9 hk hl⟩
    | some v =>
      refine map_get mapN hmp (k := s) ?_
      rw [hl]
      exact ⟨v.a, v.n, v.c, true, rfl, fun _ => ⟨v, f s, rfl, g6 s v hl, g3 s, g4 s, Sub.refl H⟩, fun e => by cases e⟩
/-- With a name's possibilities said anew. -/
def setR (R : Poss) (s : ByteArray) (A : Ch → Prop) : Poss := fun t z => (t = s ∧ A z) ∨ (t ≠ s ∧ R t z)
open Classical in
theorem NamesR.put {F H H' : PHeap} {mb : Nat} {R : Poss} {s : ByteArray} {v : SlV} {xs : List Ch} {ml : List (ByteArray × SlV)} {f : ByteArray → List Ch} (hF : F mb = none) (hm : Mp H' mb Value.string slV (mlay ml s v)) (hk : TyK H H')
    (h3 : ∀ s z, R s z ↔ ∃ x ∈ f s, Reach x z) (h4 : ∀ s, (f s).length ≤ 5000) (h5 : ∀ s, mlook ml s = none → f s = [c0]) (h6 : ∀ s v, mlook ml s = some v → ChL H v (f s)) (hv : ChL H v xs) (hx : xs.length ≤ 5000) :
    NamesR F H' (some mb) (setR R s fun z => ∃ x ∈ xs, Reach x z) := by
  refine ⟨mlay ml s v, fun t => if t = s then xs else f t, fun b e => by cases e; exact ⟨hF, hm⟩, (fun e => by cases e), fun t z => ?_, fun t => ?_, fun t ht => ?_, fun t u hu => ?_⟩
  · unfold setR
    by_cases e : t = s
    · simp [e]
    · simp [e, h3]
  · by_cases e : t = s
    · simp only [e, if_true]; exact hx
    · simp only [e, if_false]; exact h4 t
  · rw [mlook_lay] at ht
    by_cases e : t = s
    · rw [if_pos e] at ht; cases ht
    · rw [if_neg e] at ht; simp only [e, if_false]; exact h5 t ht
  · rw [mlook_lay] at hu
    by_cases e : t = s
    · rw [if_pos e] at hu; cases hu; simp only [e, if_true]; exact hv.keep hk
    · rw [if_neg e] at hu; simp only [e, if_false]; exact (h6 t u hu).keep hk
theorem set_ok {F H : PHeap} {m : Nat} {sl : SlV} {ops : List OpS} {R : Poss} (h : MapK F H m sl ops R) (s : ByteArray) {v : SlV} {xs : List Ch} (hv : ChL H v xs) (hx : xs.length ≤ 5000) :
    Triple Tryd.prog 29 #[.pointer (at0 m), .string s, slV v] H fun u H' => u = .tuple #[] ∧ MapK F H' m sl ops (setR R s fun z => ∃ x ∈ xs, Reach x z) := by
  obtain ⟨oa, n, c, vs, mr, hsl, h1, h2, h3, h4, h5⟩ := h.row
  obtain ⟨ml, f, g1, g2, g3, g4, g5, g6⟩ := h5.out
  have hne := MapK.ob (m := m)
  refine mSet.vc (at0 m) s v.a v.n v.c H _ ⟨hne, hne, mr, h1.fld (i := 1) rfl, fun e => ?_, fun e => ?_⟩
  · obtain rfl : mr = none := by simpa using e
    obtain rfl := g2 rfl
    refine makeMap_mp fun mb hmb => ⟨some mb, rfl, hne, hne, _, (h1.sub (Sub.upd _ hmb)).put (i := 1) (by simp), hne, hne, some mb, ?_, ?_⟩
    · exact (Bx.new ..).fld (i := 1) rfl
    have nm : m ≠ mb := fun e => by unfold Bx at h1; rw [e, hmb] at h1; cases h1
    have hA := Sub.upd (H := H) (.map #[] 0) hmb
    have h1A := h1.sub hA
    have hmp : Mp ((H.upd mb (.map #[] 0)).upd m (.cells ([Value.slice oa n c, .map none].set 1 (.map (some mb))).toArray 37 (0, 0))) mb Value.string slV ([] : List (ByteArray × SlV)) := (Mp.new H mb _ _).mono fun o ho => by rw [upd_ne _ _ (Ne.symm nm)]; exact ho
    refine map_put mapN hmp (k := s) (v := v) fun o hm2 => ⟨rfl, ?_⟩
    have hF : F mb = none := h.sub.none hmb
    have hrow : ∀ a, oa = some a → a.block ≠ m ∧ a.block ≠ mb := fun a ha => by
      rcases h3.row with ⟨e1, _⟩ | ⟨g, cur, e1, hg, _⟩
      · rw [e1] at ha; cases ha
      · rw [e1] at ha; cases ha
        refine ⟨fun e => ?_, fun e => ?_⟩ <;> simp only at e
        · unfold Bx at h1; rw [e, h1] at hg; injection hg with hg; injection hg with _ hg _; cases hg
        · rw [e, hmb] at hg; cases hg
    have k1 : TyK H (H.upd mb (.map #[] 0)) := .sub hA
    have k2 : TyK (H.upd mb (.map #[] 0)) ((H.upd mb (.map #[] 0)).upd m (.cells ([Value.slice oa n c, .map none].set 1 (.map (some mb))).toArray 37 (0, 0))) := .upd fun c' t r hk => by
      unfold Bx at h1A; rw [h1A] at hk; injection hk with e; injection e with _ e _; subst e; unfold typ; decide
    have k3 : TyK ((H.upd mb (.map #[] 0)).upd m (.cells ([Value.slice oa n c, .map none].set 1 (.map (some mb))).toArray 37 (0, 0))) (((H.upd mb (.map #[] 0)).upd m (.cells ([Value.slice oa n c, .map none].set 1 (.map (some mb))).toArray 37 (0, 0))).upd mb o) := .upd fun c' t r hk => by
      rw [upd_ne _ _ (Ne.symm nm), upd_eq] at hk; cases hk
    have hkk := (k1.trans k2).trans k3
    refine ⟨Bx.sub_of (Bx.sub_of (h.sub.trans hA) h.o) hF, h.o, oa, n, c, vs, some mb, hsl, (Bx.new ..).upd_ne _ nm, h2, h3.mono fun a o' ha ho => ?_, h4.keep hkk, NamesR.put hF hm2 hkk g3 g4 g5 g6 hv hx⟩
    rw [upd_ne _ _ (hrow a ha).2, upd_ne _ _ (hrow a ha).1, upd_ne _ _ (hrow a ha).2]; exact ho
  · obtain ⟨mb, rfl⟩ : ∃ mb, mr = some mb := by cases mr with | none => simp at e | some mb => exact ⟨mb, rfl⟩
    obtain ⟨hF, hmp⟩ := g1 mb rfl
    refine ⟨hne, hne, some mb, h1.fld (i := 1) rfl, map_put mapN hmp (k := s) (v := v) fun o hm2 => ⟨rfl, ?_⟩⟩
    obtain ⟨es, ck, q1, _⟩ := hmp.out
    have nm : m ≠ mb := fun e => by unfold Bx at h1; rw [e, q1] at h1; cases h1
    have hkk : TyK H (H.upd mb o) := .upd fun c' t r hk => by rw [q1] at hk; cases hk
    refine ⟨Bx.sub_of h.sub hF, h.o, oa, n, c, vs, some mb, hsl, h1.upd_ne _ nm, h2, h3.mono fun a o' ha ho => ?_, h4.keep hkk, NamesR.put hF hm2 hkk g3 g4 g5 g6 hv hx⟩
    rw [upd_ne _ _ fun e => ?_]
    · exact ho
    · rcases h3.row with ⟨e1, _⟩ | ⟨g, cur, e1, hg, _⟩
      · rw [e1] at ha; cases ha
      · rw [e1] at ha; cases ha
        simp only at e
        rw [e, q1] at hg; cases hg
end Go.Mdl
