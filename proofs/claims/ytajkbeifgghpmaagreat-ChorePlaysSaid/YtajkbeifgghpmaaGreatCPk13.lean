/- The contracts of a chore's object: what it holds; the end, an agreement's and a round's beginning. · The contracts of a chore's object: a round begins; names. · The contracts of a chore's object: all are asked; who has answered; the next name. · The contracts of a chore's object: pages. · The contracts of a chore's object: behind an agreement: purge, mend. · The contracts of a chore's object: behind the agreement on a name. -/
import Derived.Test.YtajkbeifgghpmaaGreatCPk12
set_option linter.unusedVariables false
set_option maxRecDepth 100000
namespace Go.Rnd
open Go.Vx Go.Vc Go.Proofs
theorem grow_le2 {F H G G' : PHeap} (h : Sub G G') : Sub (grow F H G) (grow F H G') := ⟨fun q o hq => by
  unfold grow at hq ⊢
  cases hh : H q with
  | some x => rw [hh] at hq; exact hq
  | none => rw [hh] at hq; exact h.le _ _ hq⟩
theorem rd_grow2 {α : Type} {F H H2 : PHeap} {E : α → List Value} {sz : Nat} {oa : Option Addr} {n : Nat} {l : List α} (h : RdL H2 E sz oa n l) (ho : Off H oa) : RdL (grow F H H2) E sz oa n l :=
  h.part fun a o ha hb => by rw [grow_at (ho a ha)]; exact hb
/-- A round is made: apart from what was there. -/
theorem new2_ok {F H : PHeap} {oa ob : Option Addr} {n c m d : Nat} {asks : List Msg} {wait : List Int} {tries : Int} (hF : Sub F H) (h1 : RdL H mE 13 oa n asks) (h2 : RdL H iE 1 ob m wait) (hn : n ≤ 100000) (hm : m ≤ 100000) :
    Triple Tryz.prog 100 #[.int .i64 tries, .slice oa n c, .slice ob m d] H fun v H' => ∃ k H2, v = .pointer (at0 k) ∧ Sub H H2 ∧ Sub H2 H' ∧ RdS (grow F H H2) (grow F H H') k asks wait [] (maxI tries 0) := by
  refine newR.vc tries oa n c ob m d H _ ((cloneM_ok h1 hn).mono ?_)
  rintro _ H1 ⟨b1, k1, rfl, g1, s1, f1⟩
  refine ⟨b1, n, k1, rfl, (cloneI_ok (h2.mono s1) hm).mono ?_⟩
  rintro _ H2 ⟨b2, k2, rfl, g2, s2, f2⟩
  refine ⟨b2, m, k2, rfl, makeMap_mp fun b hb => ⟨some b, rfl, fun k hk => ?_⟩⟩
  have hkb : b ≠ k := fun e => by rw [e, upd_eq] at hk; cases hk
  have hk2 : H2 k = none := by rwa [Vx.upd_ne _ _ (fun e => hkb e.symm)] at hk
  have s12 := s1.trans s2
  have hkH : H k = none := s12.none hk2
  have hbH : H b = none := s12.none hb
  have s3 : Sub H2 ((H2.upd b (.map #[] 0)).upd k (.cells #[.slice b1 n k1, .slice b2 m k2, .map (some b), .int .i64 (maxI tries 0)] 119 (0, 0))) := (Sub.upd _ hb).trans (Sub.upd _ hk)
  refine ⟨k, H2, rfl, s12, s3, ⟨grow_le2 s3, by rw [grow_at hkH]; exact hk2, b1, n, k1, b2, m, k2, b, ?_, rd_grow2 ((g1.rd (E := mE) (sz := 13) (by omega) mLen).mono s2) f1, rd_grow2 (g2.rd (E := iE) (sz := 1) (by omega) iLen) (f2.sub s1), ?_, by rw [grow_at hbH]; exact hb, hkb, hn, hm⟩⟩
  · unfold Bx
    rw [grow_at hkH]
    exact Bx.new _ k _ _
  · have := (Mp.new H2 b (Value.int .i64) vM (κ := Int) (ν := Msg)).mono (H' := (H2.upd b (.map #[] 0)).upd k (.cells #[.slice b1 n k1, .slice b2 m k2, .map (some b), .int .i64 (maxI tries 0)] 119 (0, 0))) fun o ho => (Sub.upd _ hk).le _ _ ho
    exact this.mono fun o ho => by rw [grow_at hbH]; exact ho
end Go.Rnd
namespace Go.Cho
open Go.Vx Go.Vc Go.Proofs Go.Pln Go.Stl Go.Agr
open Go.Hp (rest_ok restL restL_spec restL_len Asc asc_ext has_ok refRest_ok)
open Go.Rnd (takesG insG froms againG OkM AscG RdS Both)
open Go.Txt (sE)
open Go.Page (limL namesL susL susStep cntL sumN names_ noS stateL PgT)
theorem Parts.wr {F A B H : PHeap} {k : Nat} {o : Obj} (h : Parts F A B H) (hk : F k = none) (hb : B k ≠ none) : Parts F A (B.upd k o) (H.upd k o) := by
  have ha : A k = none := (h.apart k hk).resolve_right hb
  refine ⟨h.fa, h.fb.wr hk, h.a.wr ha, ⟨fun q o' hq => ?_⟩, fun q hq => ?_⟩
  · by_cases e : q = k
    · rw [e, Vx.upd_eq] at hq ⊢; exact hq
    · rw [Vx.upd_ne _ _ e] at hq ⊢; exact h.b.le _ _ hq
  · by_cases e : q = k
    · rw [e]; exact .inl ha
    · rw [Vx.upd_ne _ _ e]; exact h.apart q hq
theorem agK_weak {F F0 H : PHeap} {k kr : Nat} {s : Agr.St} (h : AgK F H k kr s) (hs : Sub F0 F) (hG : ∀ m ∈ s.G, OkM F0 m) (hS : ∀ m ∈ s.said, OkM F0 m) : AgK F0 H k kr s := by
  obtain ⟨h1, h2, F1, got, x, h3, h4, h5, h6⟩ := h
  exact ⟨hs.none h1, ⟨h2.pok, h2.wt, h2.gin, h2.asc, hG, hS⟩, F1, got, x, h3, h4, hs.trans h5, h6⟩
structure Pl where
  a : Option Addr
  n : Nat
  c : Nat
abbrev Pl.v (p : Pl) : Value := .slice p.a p.n p.c
def pl0 : Pl := ⟨none, 0, 0⟩
structure TV where
  a : Option Addr
  r : Option Addr
  am : Msg
  j : Value
  s : Agr.St
  rx : AV
  pn : Pl
  ps : Pl
  nm : Pl
  su : Pl
  ch : Pl
abbrev slV {α : Type} (s : Sl α) : Value := .slice s.oa s.n s.c
abbrev mL (m : Msg) : List Value := [vI m.1, vI m.2.1, vI m.2.2.1, vI m.2.2.2.1, .string m.2.2.2.2.1, vI m.2.2.2.2.2.1, vI m.2.2.2.2.2.2.1, vI m.2.2.2.2.2.2.2.1, vI m.2.2.2.2.2.2.2.2.1, vI m.2.2.2.2.2.2.2.2.2.1, slV m.2.2.2.2.2.2.2.2.2.2.1, slV m.2.2.2.2.2.2.2.2.2.2.2.1, slV m.2.2.2.2.2.2.2.2.2.2.2.2]
abbrev cellsT (t : TS) (x : TV) : List Value :=
  [vI t.p.n, vI t.p.t, vI t.p.l, vI t.p.w, vI t.p.s, vI t.p.r, vI t.ballot, vI t.c.k, .string t.c.nm, vI t.c.tg, .pointer x.a, .pointer x.r,
   vI x.am.1, vI x.am.2.1, vI x.am.2.2.1, vI x.am.2.2.2.1, .string x.am.2.2.2.2.1, vI x.am.2.2.2.2.2.1, vI x.am.2.2.2.2.2.2.1, vI x.am.2.2.2.2.2.2.2.1, vI x.am.2.2.2.2.2.2.2.2.1, vI x.am.2.2.2.2.2.2.2.2.2.1, slV x.am.2.2.2.2.2.2.2.2.2.2.1, slV x.am.2.2.2.2.2.2.2.2.2.2.2.1, slV x.am.2.2.2.2.2.2.2.2.2.2.2.2,
   x.j, .bool x.s.ok, .bool x.s.fixed, .bool x.s.value.pr, vI x.s.value.at_, vI x.s.value.ep, vI x.s.value.sz, .slice x.rx.h x.rx.hn x.rx.hc, .slice x.rx.a x.rx.an x.rx.ac, .slice x.rx.s x.rx.sn x.rx.sc,
   x.pn.v, .string t.after, x.ps.v, x.nm.v, x.su.v, x.ch.v, .bool (decide (t.at_ = 0))]
abbrev tTk : TypeId := 75
abbrev chE (c : Ch) : List Value := [vI c.k, .string c.nm, vI c.tg]
theorem chLen (c : Ch) : (chE c).length = 3 := rfl
theorem chOne (c : Ch) : ∀ u ∈ chE c, u.oneCell' = true := fun u hu => by simp at hu; rcases hu with rfl | rfl | rfl <;> rfl
theorem tCh : ElemT Tryz.prog 38 34 3 32 := .of (by kernel_rfl)
/-- Places of their own. -/
structure Apart (F : PHeap) (k : Nat) (x : TV) : Prop where
  ps : Off F x.ps.a
  su : Off F x.su.a
  ch : Off F x.ch.a
  psk : ∀ z, x.ps.a = some z → z.block ≠ k
  suk : ∀ z, x.su.a = some z → z.block ≠ k
  chk : ∀ z, x.ch.a = some z → z.block ≠ k
  pu : ∀ z y, x.ps.a = some z → x.su.a = some y → z.block ≠ y.block
  pc : ∀ z y, x.ps.a = some z → x.ch.a = some y → z.block ≠ y.block
  uc : ∀ z y, x.su.a = some z → x.ch.a = some y → z.block ≠ y.block
/-- The block k of B holds a task, beside F. -/
structure TkB (F B : PHeap) (k : Nat) (t : TS) (x : TV) : Prop where
  sub : Sub F B
  off : F k = none
  bx : Bx B k tTk (cellsT t x)
  pn : RdL F sE 1 x.pn.a x.pn.n t.pn
  ps : OwnL B 3 iE 1 x.ps.a x.ps.n x.ps.c t.ps
  nm : RdL F sE 1 x.nm.a x.nm.n t.names
  nmc : x.nm.n ≤ x.nm.c
  su : OwnL B 3 iE 1 x.su.a x.su.n x.su.c t.sus
  ch : OwnL B 34 chE 3 x.ch.a x.ch.n x.ch.c t.chores
  ap : Apart F k x
  an : x.am.2.2.2.2.1 = t.askN
  aw : RdL F iE 1 (who_ x.am).oa (who_ x.am).n t.askW
def jT (a : Int) : Value := if a = 1 then .func (Fn.func 56) #[] #[] else if a = 2 then .func (Fn.func 134) #[] #[]
  else if a = 4 then .func (Fn.func 24) #[] #[] else if a = 6 then .func (Fn.func 25) #[] #[] else .func (Fn.func 62) #[] #[]
def kT (a : Int) : Int := if a = 1 then 6 else if a = 3 then 7 else if a = 5 then 10 else 8
/-- What it waits for lies in A. -/
structure TkA (F A : PHeap) (t : TS) (x : TV) : Prop where
  j : t.at_ ≠ 0 → x.j = jT t.at_
  ag : t.agrees = true → ∃ ka, x.a = at0 ka ∧ AgS F A ka t.A
  rd : t.agrees = false → t.at_ ≠ 0 → x.a = none ∧ x.am.1 = kT t.at_ ∧ ∃ kr asks got, x.r = at0 kr ∧ RdS F A kr asks t.wait got t.tries ∧ Both got t.G ∧ asks.map strip = t.asks ∧ (∀ m ∈ asks, OkM F m) ∧ ∀ m ∈ t.G, OkC F m
  no : t.at_ = 1 → x.su = pl0 ∧ x.ch = pl0 ∧ t.sus = []
def TkS (H0 H : PHeap) (k : Nat) (t : TS) : Prop := ∃ F A B x, Sub H0 F ∧ Parts F A B H ∧ TkB F B k t x ∧ TkA F A t x
/-- What is said: these messages, wherever their lists lie. -/
def SaidL (L : List Msg) (v : Value) (H : PHeap) : Prop := ∃ b n c l, v = .slice b n c ∧ RdL H mE 13 b n l ∧ (∀ m ∈ l, OkM H m) ∧ l.map strip = L
abbrev OutT (H0 : PHeap) (k : Nat) (r : TS × List Msg) (v : Value) (H' : PHeap) : Prop := SaidL r.2 v H' ∧ TkS H0 H' k r.1
theorem SaidL.nil (H : PHeap) : SaidL [] (.slice none 0 0) H := ⟨none, 0, 0, [], rfl, RdL.nil _ _ _, (fun m hm => by cases hm), rfl⟩
theorem SaidL.mono {L : List Msg} {v : Value} {H H' : PHeap} (h : SaidL L v H) (hs : Sub H H') : SaidL L v H' := by
  obtain ⟨b, n, c, l, h1, h2, h3, h4⟩ := h
  exact ⟨b, n, c, l, h1, h2.mono hs, fun m hm => (h3 m hm).mono hs, h4⟩
theorem Apart.same {F F' : PHeap} {k : Nat} {x x' : TV} (h : Apart F k x) (h1 : x'.ps = x.ps) (h2 : x'.su = x.su) (h3 : x'.ch = x.ch) (hf : ∀ z, x.ps.a = some z ∨ x.su.a = some z ∨ x.ch.a = some z → F z.block = none → F' z.block = none) : Apart F' k x' := by
  refine ⟨?_, ?_, ?_, ?_, ?_, ?_, ?_, ?_, ?_⟩
  · rw [h1]; exact fun z hz => hf z (.inl hz) (h.ps z hz)
  · rw [h2]; exact fun z hz => hf z (.inr (.inl hz)) (h.su z hz)
  · rw [h3]; exact fun z hz => hf z (.inr (.inr hz)) (h.ch z hz)
  · rw [h1]; exact h.psk
  · rw [h2]; exact h.suk
  · rw [h3]; exact h.chk
  · rw [h1, h2]; exact h.pu
  · rw [h1, h3]; exact h.pc
  · rw [h2, h3]; exact h.uc
/-- A cell of the box turns. -/
theorem TkB.wr {F B : PHeap} {k : Nat} {t t' : TS} {x x' : TV} (h : TkB F B k t x) (e1 : x'.pn = x.pn) (e2 : x'.ps = x.ps) (e3 : x'.nm = x.nm) (e4 : x'.su = x.su) (e5 : x'.ch = x.ch) (g1 : t'.pn = t.pn) (g2 : t'.ps = t.ps) (g3 : t'.names = t.names) (g4 : t'.sus = t.sus) (g5 : t'.chores = t.chores)
    (ha : x'.am.2.2.2.2.1 = t'.askN) (hw : RdL F iE 1 (who_ x'.am).oa (who_ x'.am).n t'.askW) : TkB F (B.upd k (.cells (cellsT t' x').toArray tTk (0, 0))) k t' x' := by
  have ne : ∀ {oa : Option Addr} {ty : TypeId} {sz n c : Nat} {xs : List Value}, (∀ z, oa = some z → z.block ≠ k) → Owns B ty sz oa n c xs → Owns (B.upd k (.cells (cellsT t' x').toArray tTk (0, 0))) ty sz oa n c xs := fun hn ho => ho.mono fun z o hz hb => by rw [Vx.upd_ne _ _ (hn z hz)]; exact hb
  refine ⟨h.sub.wr h.off, h.off, Bx.new _ _ _ _, ?_, ?_, ?_, ?_, ?_, ?_, h.ap.same e2 e4 e5 fun _ _ h => h, ha, hw⟩
  · rw [e1, g1]; exact h.pn
  · rw [e2, g2]; exact ne h.ap.psk h.ps
  · rw [e3, g3]; exact h.nm
  · rw [e3]; exact h.nmc
  · rw [e4, g4]; exact ne h.ap.suk h.su
  · rw [e5, g5]; exact ne h.ap.chk h.ch
theorem TkB.bk {F B : PHeap} {k : Nat} {t : TS} {x : TV} (h : TkB F B k t x) : B k ≠ none := by
  have := h.bx
  unfold Bx at this
  rw [this]; simp
theorem obK (k i : Nat) : Ob (fldA (at0 k) i ≠ none) := ⟨by simp [at0, fldA]⟩
theorem end_okO {H0 F H : PHeap} {k : Nat} {t : TS} {x : TV} (hF : Sub H0 F) (h : TkB F H k t x) : Triple Tryz.prog 21 #[.pointer (at0 k)] H (fun v H' => v = .slice none 0 0 ∧ TkS H0 H' k t.over ∧ TkB F H' k t.over x) := by
  refine choEnd.vc (at0 k) H _ ⟨obP k, obP k, _, h.bx.put (i := 41) (x := .bool true) (by show 41 < 42; decide), ?_⟩
  have hb := h.wr (t' := t.over) (x' := x) rfl rfl rfl rfl rfl rfl rfl rfl rfl rfl h.an h.aw
  refine ⟨rfl, ⟨F, F, _, x, hF, ⟨Sub.refl _, hb.sub, hb.sub, Sub.refl _, fun q hq => .inl hq⟩, hb, ⟨(fun e => absurd rfl e), (fun e => by cases e), (fun _ e => absurd rfl e), fun e => by cases e⟩⟩, hb⟩
theorem agree_okO {H0 F H : PHeap} {k : Nat} {t : TS} {x : TV} {nm : ByteArray} {force : Bool} {at' : Int} (hF : Sub H0 F) (h : TkB F H k t x) (hp : t.p.ok = true) (h0 : t.at_ ≠ 0 ∨ True) (ha : at' = 2 ∨ at' = 4 ∨ at' = 6) (hov : decide (t.at_ = 0) = decide (at' = 0)) :
    Triple Tryz.prog 23 #[.pointer (at0 k), .string nm, .bool force, jT at'] H (OutT H0 k (t.agree nm force at')) := by
  have rp : Reads H (fldA (at0 k) 0) [vI t.p.n, vI t.p.t, vI t.p.l, vI t.p.w, vI t.p.s, vI t.p.r] := h.bx.readsAt 0 fun j v hv => by
    match j, hv with
    | 0, hv => exact hv
    | 1, hv => exact hv
    | 2, hv => exact hv
    | 3, hv => exact hv
    | 4, hv => exact hv
    | 5, hv => exact hv
    | j + 6, hv => simp at hv
  have p0 : Parts F F H H := ⟨Sub.refl _, h.sub, h.sub, Sub.refl _, fun q hq => .inl hq⟩
  have hok : okCell (jT at') = true := by rcases ha with rfl | rfl | rfl <;> rfl
  refine choAgree.vc (at0 k) nm force (jT at') H _ ⟨H, Sub.refl _, obP k, obP k, _, _, _, _, _, _, rp, obP k, obP k, _, h.bx.fld (i := 6) rfl, (Triple.part p0 (settle_ok (p := t.p) (b := t.ballot) (nm := nm) (force := force) hp) ?_).mono ?_⟩
  · rintro _ A' ⟨_, _, _, _, F1, _, _, g1, _, g2⟩
    exact g1.trans (by obtain ⟨kr, g⟩ := g2; exact g.sub)
  rintro _ H1 ⟨A', ⟨ka, b, n, c, F1, rfl, hka, hF1, hrd, kr, hA⟩, hP⟩
  obtain ⟨_, s2, s3⟩ := Sml.ask (s := init0 t.p t.ballot nm force false (IntKind.i64.wrap (2 * t.ballot))) (m := mask) hp (Nat.zero_le _) (Nat.zero_le _) (Nat.zero_le _) bare_ask
  have hA' : AgK F A' ka kr ((init0 t.p t.ballot nm force false (IntKind.i64.wrap (2 * t.ballot))).ask mask).1 := agK_weak hA hF1 (fun m hm => by cases hm) (fun m hm => by cases hm)
  have b1 := h.bx.sub hP.b
  refine ⟨at0 ka, b, n, c, rfl, obP k, obP k, _, b1.put (i := 10) (x := .pointer (at0 ka)) (by show 10 < 42; decide), obP k, obP k, ?_⟩
  have hb1 := h.wr (t' := t) (x' := { x with a := at0 ka }) rfl rfl rfl rfl rfl rfl rfl rfl rfl rfl h.an h.aw
  have hP1 := Parts.wr (o := .cells (cellsT t { x with a := at0 ka }).toArray tTk (0, 0)) hP h.off h.bk
  have c1 : Bx (H1.upd k (.cells (cellsT t { x with a := at0 ka }).toArray tTk (0, 0))) k tTk (cellsT t { x with a := at0 ka }) := Bx.new _ _ _ _
  refine ⟨_, c1.put (i := 11) (x := .pointer none) (by show 11 < 42; decide), obP k, obP k, ⟨hok⟩, ?_⟩
  have hb2 := hb1.wr (t' := t) (x' := { x with a := at0 ka, r := none }) rfl rfl rfl rfl rfl rfl rfl rfl rfl rfl h.an h.aw
  have hP2 := Parts.wr (o := .cells (cellsT t { x with a := at0 ka, r := none }).toArray tTk (0, 0)) hP1 h.off hb1.bk
  have c2 : Bx ((H1.upd k (.cells (cellsT t { x with a := at0 ka }).toArray tTk (0, 0))).upd k (.cells (cellsT t { x with a := at0 ka, r := none }).toArray tTk (0, 0))) k tTk (cellsT t { x with a := at0 ka, r := none }) := Bx.new _ _ _ _
  refine ⟨_, c2.put (i := 25) (x := jT at') (by show 25 < 42; decide), ?_⟩
  have hb3 := hb2.wr (t' := (t.agree nm force at').1) (x' := { x with a := at0 ka, r := none, j := jT at' }) rfl rfl rfl rfl rfl rfl rfl rfl rfl rfl h.an h.aw
  have hP3 := Parts.wr (o := .cells (cellsT (t.agree nm force at').1 { x with a := at0 ka, r := none, j := jT at' }).toArray tTk (0, 0)) hP2 h.off hb2.bk
  have e3 : (cellsT t { x with a := at0 ka, r := none }).set 25 (jT at') = cellsT (t.agree nm force at').1 { x with a := at0 ka, r := none, j := jT at' } := by
    show cellsT t { x with a := at0 ka, r := none, j := jT at' } = _
    show ((cellsT t { x with a := at0 ka, r := none, j := jT at' }).take 41 ++ [.bool (decide (t.at_ = 0))]) = ((cellsT t { x with a := at0 ka, r := none, j := jT at' }).take 41 ++ [.bool (decide (at' = 0))])
    rw [hov]
  rw [e3]
  refine ⟨⟨b, n, c, ((init0 t.p t.ballot nm force false (IntKind.i64.wrap (2 * t.ballot))).ask mask).2, rfl, hrd.mono (hA.sub.trans hP3.a), fun m hm => (s2 m hm).ok _, strip_bares s2⟩, F, A', _, { x with a := at0 ka, r := none, j := jT at' }, hF, hP3, hb3, ⟨fun _ => rfl, fun _ => ⟨ka, rfl, kr, hA'⟩, fun e => ?_, fun e => ?_⟩⟩
  · have : ((at' == 2 || at' == 4 || at' == 6) : Bool) = false := e
    simp at this
    omega
  · have : at' = 1 := e
    omega
end Go.Cho
namespace Go.Cho
open Go.Vx Go.Vc Go.Proofs Go.Pln Go.Stl Go.Agr
open Go.Hp (rest_ok restL restL_spec restL_len Asc asc_ext has_ok refRest_ok)
open Go.Rnd (takesG insG froms againG OkM AscG RdS Both)
open Go.Txt (sE)
open Go.Page (limL namesL susL susStep cntL sumN names_ noS stateL PgT)
theorem own_rest {H : PHeap} {ty : TypeId} {sz n c : Nat} {oa : Option Addr} {xs : List Value} {k : Nat} (h : Owns H ty sz oa n c xs) (hn : ∀ z, oa = some z → z.block ≠ k) : Owns (rest H [k]) ty sz oa n c xs :=
  h.mono fun z o hz hb => by rw [rest_at (by simpa using hn z hz)]; exact hb
theorem own_off {F P G H : PHeap} {ty : TypeId} {sz n c : Nat} {oa : Option Addr} {xs : List Value} (h : Owns P ty sz oa n c xs) (hf : Off F oa) : Off (grow F P G) oa := fun z hz => by
  subst hz
  obtain ⟨o, ho⟩ := h.blk
  exact grow_off ho (hf z rfl)
theorem planR {F B : PHeap} {k : Nat} {t : TS} {x : TV} (h : TkB F B k t x) : Reads B (fldA (at0 k) 0) [vI t.p.n, vI t.p.t, vI t.p.l, vI t.p.w, vI t.p.s, vI t.p.r] := h.bx.readsAt 0 fun j v hv => by
  match j, hv with
  | 0, hv => exact hv
  | 1, hv => exact hv
  | 2, hv => exact hv
  | 3, hv => exact hv
  | 4, hv => exact hv
  | 5, hv => exact hv
  | j + 6, hv => simp at hv
/-- The task behind a call that was made without its box: what is new is known. -/
theorem TkB.regrow {F H H2 : PHeap} {k : Nat} {t : TS} {x : TV} (h : TkB F H k t x) (hs : Sub (rest H [k]) H2) (hk : H2 k = none) : TkB (grow F (rest H [k]) H2) (H2.upd k (.cells (cellsT t x).toArray tTk (0, 0))) k t x := by
  have hF : Sub F (rest H [k]) := rest_le h.sub (by simpa using h.off)
  have hle := grow_le (G := H2) hF
  have hkF : (grow F (rest H [k]) H2) k = none := by rw [grow_at (rest_none (by simp))]; exact hk
  have up : ∀ {oa : Option Addr} {ty : TypeId} {sz n c : Nat} {xs : List Value}, (∀ z, oa = some z → z.block ≠ k) → Owns H ty sz oa n c xs → Owns (H2.upd k (.cells (cellsT t x).toArray tTk (0, 0))) ty sz oa n c xs := fun hn ho =>
    (own_rest ho hn).mono fun z o hz hb => by rw [Vx.upd_ne _ _ (hn z hz)]; exact hs.le _ _ hb
  refine ⟨(grow_sub hF hs).wr hkF, hkF, Bx.new _ _ _ _, h.pn.mono hle, up h.ap.psk h.ps, h.nm.mono hle, h.nmc, up h.ap.suk h.su, up h.ap.chk h.ch, ⟨?_, ?_, ?_, h.ap.psk, h.ap.suk, h.ap.chk, h.ap.pu, h.ap.pc, h.ap.uc⟩, h.an, h.aw.mono hle⟩
  · exact own_off (H := H) (own_rest h.ps h.ap.psk) h.ap.ps
  · exact own_off (H := H) (own_rest h.su h.ap.suk) h.ap.su
  · exact own_off (H := H) (own_rest h.ch h.ap.chk) h.ap.ch
theorem TkB.mono {F B B' : PHeap} {k : Nat} {t : TS} {x : TV} (h : TkB F B k t x) (hs : Sub B B') : TkB F B' k t x :=
  ⟨h.sub.trans hs, h.off, h.bx.sub hs, h.pn, h.ps.mono fun _ o _ hb => hs.le _ _ hb, h.nm, h.nmc, h.su.mono fun _ o _ hb => hs.le _ _ hb, h.ch.mono fun _ o _ hb => hs.le _ _ hb, h.ap, h.an, h.aw⟩
theorem RdS_less {F P0 P H2 G : PHeap} {k : Nat} {asks : List Msg} {wait : List Int} {got : List (Int × Msg)} {tries : Int} (h : RdS (grow F P H2) (grow F P G) k asks wait got tries) (h0 : Sub F P0) (hp : Sub P0 P) (h2 : Sub P H2) (h3 : Sub H2 G) : RdS (grow F P0 H2) (grow F P0 G) k asks wait got tries := by
  have le : ∀ {X : PHeap}, Sub P X → Sub (grow F P X) (grow F P0 X) := fun {X} hX => ⟨fun q o hq => by
    unfold grow at hq ⊢
    cases e0 : P0 q with
    | some o' => rw [hp.le _ _ e0] at hq; exact hq
    | none =>
      cases e1 : P q with
      | some o' => rw [e1] at hq; have := h0.none e0; simp only at hq; rw [this] at hq; cases hq
      | none => rw [e1] at hq; exact hq⟩
  have off : ∀ {q : Nat} {o : Obj}, grow F P G q = some o → grow F P H2 q = none → grow F P0 H2 q = none := fun {q} {o} hq hn => by
    unfold grow at hq hn ⊢
    cases e1 : P q with
    | some o' => rw [e1] at hq hn; simp only at hq hn; rw [hn] at hq; cases hq
    | none =>
      rw [e1] at hn
      cases e0 : P0 q with
      | some o' => rw [hp.le _ _ e0] at e1; cases e1
      | none => exact hn
  obtain ⟨oa, n, c, ob, m, d, gb, g1, g2, g3, g4, g5, g6, g7, g8⟩ := h.row
  obtain ⟨es, c', q1, _⟩ := g4.out
  have l2 := le h2
  have lG := le (h2.trans h3)
  exact ⟨Rnd.grow_le2 h3, off g1 h.off, oa, n, c, ob, m, d, gb, g1.sub lG, g2.mono l2, g3.mono l2, g4.mono fun o ho => lG.le _ _ ho, off q1 g5, g6, g7, g8⟩
/-- What is said lies in what stays. -/
def OutF (H0 : PHeap) (k : Nat) (r : TS × List Msg) (v : Value) (H' : PHeap) : Prop := ∃ F1, Sub H0 F1 ∧ SaidL r.2 v F1 ∧ TkS F1 H' k r.1
theorem OutF.out {H0 H' : PHeap} {k : Nat} {r : TS × List Msg} {v : Value} (h : OutF H0 k r v H') : OutT H0 k r v H' := by
  obtain ⟨F1, h1, h2, F, A, B, x, g1, g2, g3, g4⟩ := h
  exact ⟨h2.mono (g1.trans (g2.fa.trans g2.a)), F, A, B, x, h1.trans g1, g2, g3, g4⟩
theorem round_okF {H0 F H : PHeap} {k : Nat} {t : TS} {x : TV} {at' : Int} {m : Msg} {to wait : List Int} {oa ob : Option Addr} {n c q d : Nat} (hF : Sub H0 F) (h : TkB F H k t x) (ha : at' = 1 ∨ at' = 3 ∨ at' = 5 ∨ at' = 7) (hov : decide (t.at_ = 0) = decide (at' = 0))
    (r1 : RdL H iE 1 oa n to) (r2 : RdL H iE 1 ob q wait) (hb : ∀ z, ob = some z → z.block ≠ k) (hn : n ≤ 256) (hq : q ≤ 256) (hm : OkM F m) (hk : m.1 = kT at') (h1 : at' = 1 → x.su = pl0 ∧ x.ch = pl0 ∧ t.sus = []) :
    Triple Tryz.prog 60 #[.pointer (at0 k), Rnd.vM m, .slice oa n c, .slice ob q d, jT at'] H (OutF H0 k (t.round at' (strip m) to wait)) := by
  have hok : okCell (jT at') = true := by rcases ha with rfl | rfl | rfl | rfl <;> rfl
  have hl1 := r1.len
  have hsm : strip m = (m.1, m.2.1, m.2.2.1, m.2.2.2.1, m.2.2.2.2.1, m.2.2.2.2.2.1, m.2.2.2.2.2.2.1, m.2.2.2.2.2.2.2.1, m.2.2.2.2.2.2.2.2.1, m.2.2.2.2.2.2.2.2.2.1, bareS m.2.2.2.2.2.2.2.2.2.2.1.l, bareS m.2.2.2.2.2.2.2.2.2.2.2.1.l, bareS m.2.2.2.2.2.2.2.2.2.2.2.2.l) := rfl
  obtain ⟨y1, y2, y3, y4, y5, y6, y7, y8, y9, y10, ⟨ya, yb, yc, yl⟩, ⟨za, zb, zc, zl⟩, ⟨wa, wb, wc, wl⟩⟩ := m
  let M : Int → Msg := fun u => (y1, y2, u, t.ballot, y5, y6, y7, y8, y9, y10, ⟨ya, yb, yc, yl⟩, ⟨za, zb, zc, zl⟩, ⟨wa, wb, wc, wl⟩)
  have hsend : ∀ l : List Int, sendL t.ballot (y1, y2, y3, y4, y5, y6, y7, y8, y9, y10, ⟨ya, yb, yc, yl⟩, ⟨za, zb, zc, zl⟩, ⟨wa, wb, wc, wl⟩) l = l.map M := fun l => rfl
  refine choRound.vc (at0 k) y1 y2 y3 y4 y5 y6 y7 y8 y9 y10 ya yb yc za zb zc wa wb wc oa n c ob q d (jT at') H _ ⟨obP k, obP k, _, h.bx.fld (i := 6) rfl, fun s H' => match s with | [.slice b mm e, .int _ i, v] => 0 ≤ i ∧ i ≤ n ∧ Sub H H' ∧ OwnL H' 52 mE 13 b mm e ((to.take i.toNat).map M) ∧ Off H b ∧ ∃ u, v = .agg (mE (M u)).toArray | _ => False, fun s _ => match s with | [_, .int _ i, _] => (n - i).toNat | _ => 0, ⟨by omega, by omega, Sub.refl _, Owns.nil _ _ 13, Off.none _, y3, rfl⟩, ?_⟩
  rintro b mm e i n35 n36 n37 n38 s39 n40 n41 n42 n43 n44 a45 k46 k47 a48 k49 k50 a51 k52 k53 H54 ⟨i0, i1, s54, ho, hoff, u, hu⟩
  simp only [Value.agg.injEq] at hu
  have hu' := congrArg Array.toList hu.symm
  simp [M, pairE, intE, strE, Sl.E] at hu'
  obtain ⟨rfl, rfl, rfl, rfl, rfl, rfl, rfl, rfl, rfl, rfl, ⟨rfl, rfl, rfl⟩, ⟨rfl, rfl, rfl⟩, rfl, rfl, rfl⟩ := hu'
  obtain ⟨i, rfl⟩ : ∃ j : Nat, i = j := ⟨i.toNat, by omega⟩
  rw [Int.toNat_natCast] at ho
  have hml := (ho.rd (E := mE) (sz := 13) (by omega) Rnd.mLen).len
  rw [List.length_map, List.length_take] at hml
  refine ⟨fun hi => ?_, fun hi => ?_⟩
  · have hi' : i < n := by simpa using hi
    have r54 := r1.mono s54
    obtain ⟨z, hz, hzr⟩ := r54.ex (i := (i : Int)) (by omega) (by omega)
    rw [Int.toNat_natCast] at hz
    rw [Rnd.wrapS (by omega) (by omega)]
    refine ⟨r54.ob (by omega) (by omega), z, hzr, fun k56 hk56 => ?_⟩
    refine append_one Rnd.tM (E := mE) (x := M z) hk56 Rnd.mLen ho rfl (Rnd.mOne _) (by simp [maxLen]; omega) (by omega) ?_
    intro b' e' H' how hf hfr _
    refine ⟨b', mm + 1, e', rfl, ⟨by omega, by omega, hf.sub s54 hoff, ?_, hfr.off s54 hoff, z, rfl⟩, ⟨by simp only; omega⟩⟩
    rw [show ((i : Int) + 1).toNat = i + 1 by omega, List.take_add_one, hz, List.map_append]
    exact how
  · have hi' : ¬ i < n := by simpa using hi
    rw [List.take_of_length_le (by omega)] at ho
    have h54 := h.mono s54
    have hbk : ∀ z, b = some z → z.block ≠ k := hoff.ne h.bx
    have ra := (ho.rd (E := mE) (sz := 13) (by omega) Rnd.mLen).rest (ks := [k]) fun z hz => by simpa using hbk z hz
    have rw' := (r2.mono s54).rest (ks := [k]) fun z hz => by simpa using hb z hz
    have hFr : Sub F (rest H54 [k]) := rest_le h54.sub (by simpa using h.off)
    refine ⟨H54, Sub.refl _, obP k, obP k, obK k 0, _, h54.bx.fld (i := 5) rfl, (callR (Rnd.new2_ok (tries := t.p.r) hFr ra rw' (by omega) (by omega)) h54.bx).mono ?_⟩
    rintro _ H65 ⟨G, ⟨kr, H2, rfl, s2, sG, hR⟩, hG, b65⟩
    have hGk : G k = none := hG.none (rest_none (by simp))
    have hH2k : H2 k = none := sG.none hGk
    have hF0 : Sub F (rest H [k]) := rest_le h.sub (by simpa using h.off)
    have s0 : Sub (rest H [k]) (rest H54 [k]) := rest_mono s54
    have hR := RdS_less hR hF0 s0 s2 sG
    have s2' := s0.trans s2
    have hB := h.regrow s2' hH2k
    have hle := grow_le (G := H2) hF0
    have raF : RdL (grow F (rest H [k]) H2) mE 13 b mm (to.map M) := Rnd.rd_grow2 (ra.mono s2) (hoff.sub (rest_sub _ _))
    have hP : Parts (grow F (rest H [k]) H2) (grow F (rest H [k]) G) (H2.upd k (.cells (cellsT t x).toArray tTk (0, 0))) H65 := by
      refine ⟨Rnd.grow_le2 sG, hB.sub, (grow_sub hF0 (s2'.trans sG)).trans (hG.trans (rest_sub _ _)), ⟨fun r o hr => ?_⟩, fun r hr => ?_⟩
      · by_cases e : r = k
        · rw [e, Vx.upd_eq] at hr; rw [e, ← hr]; exact b65
        · rw [Vx.upd_ne _ _ e] at hr
          exact (hG.trans (rest_sub _ _)).le _ _ (sG.le _ _ hr)
      · cases hp : (rest H [k]) r with
        | some o =>
          have : F r = none := by
            cases hf : F r with
            | none => rfl
            | some o' =>
              have : (grow F (rest H [k]) H2) r = F r := by unfold grow; rw [hp]
              rw [this, hf] at hr; cases hr
          exact .inl (grow_off hp this)
        | none =>
          by_cases e : r = k
          · left; rw [grow_at hp, e]; exact hGk
          · right
            rw [Vx.upd_ne _ _ e]
            rw [grow_at hp] at hr; exact hr
    generalize grow F (rest H [k]) G = A2 at hP hR
    generalize hF2 : grow F (rest H [k]) H2 = F2 at hP hR hB hle raF
    generalize H2.upd k (.cells (cellsT t x).toArray tTk (0, 0)) = B2 at hP hB
    have ra65 : RdL H65 mE 13 b mm (to.map M) := ra.mono (s2.trans (sG.trans (hG.trans (rest_sub _ _))))
    have wr : ∀ {H' : PHeap} {o : Obj}, RdL H' mE 13 b mm (to.map M) → RdL (H'.upd k o) mE 13 b mm (to.map M) := fun hh => hh.frame (ob := at0 k) (fun r o' hr hn => by rw [Vx.upd_ne _ _ (hn _ rfl)]; exact hr) fun z y hz hy => by cases hy; exact hbk z hz
    refine ⟨at0 kr, rfl, obP k, obP k, _, b65.put (i := 10) (x := .pointer none) (by show 10 < 42; decide), obP k, obP k, ?_⟩
    have hb1 := hB.wr (t' := t) (x' := { x with a := none }) rfl rfl rfl rfl rfl rfl rfl rfl rfl rfl h.an (h.aw.mono hle)
    have hP1 := Parts.wr (o := .cells (cellsT t { x with a := none }).toArray tTk (0, 0)) hP hB.off hB.bk
    have c1 : Bx (H65.upd k (.cells (cellsT t { x with a := none }).toArray tTk (0, 0))) k tTk (cellsT t { x with a := none }) := Bx.new _ _ _ _
    have q1 := wr (o := .cells (cellsT t { x with a := none }).toArray tTk (0, 0)) ra65
    have e1 : H65.upd k (.cells ((cellsT t x).set 10 (.pointer none)).toArray tTk (0, 0)) = H65.upd k (.cells (cellsT t { x with a := none }).toArray tTk (0, 0)) := rfl
    rw [e1]
    generalize H65.upd k (.cells (cellsT t { x with a := none }).toArray tTk (0, 0)) = H67 at hP1 c1 q1 ⊢
    generalize B2.upd k (.cells (cellsT t { x with a := none }).toArray tTk (0, 0)) = B3 at hP1 hb1
    refine ⟨_, c1.put (i := 11) (x := .pointer (at0 kr)) (by show 11 < 42; decide), obP k, obP k, ?_⟩
    have hb2 := hb1.wr (t' := t) (x' := { x with a := none, r := at0 kr }) rfl rfl rfl rfl rfl rfl rfl rfl rfl rfl h.an (h.aw.mono hle)
    have hP2 := Parts.wr (o := .cells (cellsT t { x with a := none, r := at0 kr }).toArray tTk (0, 0)) hP1 hb1.off hb1.bk
    have c2 : Bx (H67.upd k (.cells (cellsT t { x with a := none, r := at0 kr }).toArray tTk (0, 0))) k tTk (cellsT t { x with a := none, r := at0 kr }) := Bx.new _ _ _ _
    have q2 := wr (o := .cells (cellsT t { x with a := none, r := at0 kr }).toArray tTk (0, 0)) q1
    have e2 : H67.upd k (.cells ((cellsT t { x with a := none }).set 11 (.pointer (at0 kr))).toArray tTk (0, 0)) = H67.upd k (.cells (cellsT t { x with a := none, r := at0 kr }).toArray tTk (0, 0)) := rfl
    rw [e2]
    generalize H67.upd k (.cells (cellsT t { x with a := none, r := at0 kr }).toArray tTk (0, 0)) = H68 at hP2 c2 q2 ⊢
    generalize B3.upd k (.cells (cellsT t { x with a := none, r := at0 kr }).toArray tTk (0, 0)) = B4 at hP2 hb2
    have w3 := (c2.writes (cellsT t { x with a := none, r := at0 kr, am := M u }) rfl).part (A := (cellsT t { x with a := none, r := at0 kr }).take 12) (l2 := mL (M u)) (B := (cellsT t { x with a := none, r := at0 kr }).drop 25) (old := mL x.am) c2.reads rfl
    refine ⟨_, w3, obP k, obP k, ⟨hok⟩, ?_⟩
    let t3 : TS := { t with askN := y5, askW := yl }
    have hb3 := hb2.wr (t' := t3) (x' := { x with a := none, r := at0 kr, am := M u }) rfl rfl rfl rfl rfl rfl rfl rfl rfl rfl rfl (hm.who.mono hle)
    have hP3 := Parts.wr (o := .cells (cellsT t { x with a := none, r := at0 kr, am := M u }).toArray tTk (0, 0)) hP2 hb2.off hb2.bk
    have c3 : Bx (H68.upd k (.cells (cellsT t { x with a := none, r := at0 kr, am := M u }).toArray tTk (0, 0))) k tTk (cellsT t { x with a := none, r := at0 kr, am := M u }) := Bx.new _ _ _ _
    have q3 := wr (o := .cells (cellsT t { x with a := none, r := at0 kr, am := M u }).toArray tTk (0, 0)) q2
    generalize H68.upd k (.cells (cellsT t { x with a := none, r := at0 kr, am := M u }).toArray tTk (0, 0)) = H69 at hP3 c3 q3 ⊢
    have hb3' : TkB F2 (B4.upd k (.cells (cellsT t { x with a := none, r := at0 kr, am := M u }).toArray tTk (0, 0))) k t3 { x with a := none, r := at0 kr, am := M u } := hb3
    clear hb3
    generalize B4.upd k (.cells (cellsT t { x with a := none, r := at0 kr, am := M u }).toArray tTk (0, 0)) = B5 at hP3 hb3'
    refine ⟨_, c3.put (i := 25) (x := jT at') (by show 25 < 42; decide), ?_⟩
    have hb4 := hb3'.wr (t' := (t.round at' (strip (y1, y2, y3, y4, y5, y6, y7, y8, y9, y10, ⟨ya, yb, yc, yl⟩, ⟨za, zb, zc, zl⟩, ⟨wa, wb, wc, wl⟩)) to wait).1) (x' := { x with a := none, r := at0 kr, am := M u, j := jT at' }) rfl rfl rfl rfl rfl rfl rfl rfl rfl rfl rfl (hm.who.mono hle)
    have hP4 := Parts.wr (o := .cells (cellsT (t.round at' (strip (y1, y2, y3, y4, y5, y6, y7, y8, y9, y10, ⟨ya, yb, yc, yl⟩, ⟨za, zb, zc, zl⟩, ⟨wa, wb, wc, wl⟩)) to wait).1 { x with a := none, r := at0 kr, am := M u, j := jT at' }).toArray tTk (0, 0)) hP3 hb3'.off hb3'.bk
    have q4 := wr (o := .cells (cellsT (t.round at' (strip (y1, y2, y3, y4, y5, y6, y7, y8, y9, y10, ⟨ya, yb, yc, yl⟩, ⟨za, zb, zc, zl⟩, ⟨wa, wb, wc, wl⟩)) to wait).1 { x with a := none, r := at0 kr, am := M u, j := jT at' }).toArray tTk (0, 0)) q3
    have e4 : (cellsT t { x with a := none, r := at0 kr, am := M u }).set 25 (jT at') = cellsT (t.round at' (strip (y1, y2, y3, y4, y5, y6, y7, y8, y9, y10, ⟨ya, yb, yc, yl⟩, ⟨za, zb, zc, zl⟩, ⟨wa, wb, wc, wl⟩)) to wait).1 { x with a := none, r := at0 kr, am := M u, j := jT at' } := by
      show (cellsT t { x with a := none, r := at0 kr, am := M u, j := jT at' }).take 41 ++ [.bool (decide (t.at_ = 0))] = (cellsT t { x with a := none, r := at0 kr, am := M u, j := jT at' }).take 41 ++ [.bool (decide (at' = 0))]
      rw [hov]
    rw [e4]
    have hokA : ∀ z ∈ to.map M, OkM F2 z := fun z hz => by
      obtain ⟨u, _, rfl⟩ := List.mem_map.1 hz
      exact ⟨hm.who.mono hle, hm.names.mono hle, hm.data.mono hle, hm.small⟩
    have hstr : (to.map M).map strip = (t.round at' (strip (y1, y2, y3, y4, y5, y6, y7, y8, y9, y10, ⟨ya, yb, yc, yl⟩, ⟨za, zb, zc, zl⟩, ⟨wa, wb, wc, wl⟩)) to wait).2 := by
      rw [← hsend, strip_send]; rfl
    refine ⟨F2, hF.trans hle, ⟨b, mm, e, _, rfl, raF, hokA, hstr⟩, F2, A2, _, { x with a := none, r := at0 kr, am := M u, j := jT at' }, Sub.refl _, hP4, hb4, ⟨fun _ => rfl, fun e => ?_, fun _ _ => ⟨rfl, hk, kr, to.map M, [], rfl, hR, Rnd.Both.nil, hstr, hokA, fun z hz => by cases hz⟩, h1⟩⟩
    have : ((at' == 2 || at' == 4 || at' == 6) : Bool) = true := e
    simp at this
    omega
theorem round_okO {H0 F H : PHeap} {k : Nat} {t : TS} {x : TV} {at' : Int} {m : Msg} {to wait : List Int} {oa ob : Option Addr} {n c q d : Nat} (hF : Sub H0 F) (h : TkB F H k t x) (ha : at' = 1 ∨ at' = 3 ∨ at' = 5 ∨ at' = 7) (hov : decide (t.at_ = 0) = decide (at' = 0))
    (r1 : RdL H iE 1 oa n to) (r2 : RdL H iE 1 ob q wait) (hb : ∀ z, ob = some z → z.block ≠ k) (hn : n ≤ 256) (hq : q ≤ 256) (hm : OkM F m) (hk : m.1 = kT at') (h1 : at' = 1 → x.su = pl0 ∧ x.ch = pl0 ∧ t.sus = []) :
    Triple Tryz.prog 60 #[.pointer (at0 k), Rnd.vM m, .slice oa n c, .slice ob q d, jT at'] H (OutT H0 k (t.round at' (strip m) to wait)) :=
  (round_okF hF h ha hov r1 r2 hb hn hq hm hk h1).mono fun _ _ ho => ho.out
end Go.Cho
namespace Go.Cho
open Go.Vx Go.Vc Go.Proofs Go.Pln Go.Stl Go.Agr
open Go.Hp (rest_ok restL restL_spec restL_len Asc asc_ext has_ok refRest_ok)
open Go.Rnd (takesG insG froms againG OkM AscG RdS Both)
open Go.Txt (sE)
open Go.Page (limL namesL susL susStep cntL sumN names_ noS stateL PgT)
theorem outF_slice {H0 : PHeap} {k : Nat} {r : TS × List Msg} {v : Value} {H' : PHeap} {Q : Value → PHeap → Prop} (ho : OutF H0 k r v H') (hQ : ∀ v, OutF H0 k r v H' → Q v H') : ∃ b n c, v = .slice b n c ∧ Q (.slice b n c) H' := by
  have h0 := ho
  obtain ⟨F1, _, ⟨b, n, c, l, rfl, _⟩, _⟩ := ho
  exact ⟨b, n, c, rfl, hQ _ h0⟩
theorem all_okF {H0 F H : PHeap} {k : Nat} {t : TS} {x : TV} {at' : Int} {m : Msg} (hF : Sub H0 F) (h : TkB F H k t x) (hp : t.p.ok = true) (ha : at' = 1 ∨ at' = 3 ∨ at' = 5 ∨ at' = 7) (hov : decide (t.at_ = 0) = decide (at' = 0))
    (hm : OkM F m) (hk : m.1 = kT at') (h1 : at' = 1 → x.su = pl0 ∧ x.ch = pl0 ∧ t.sus = []) :
    Triple Tryz.prog 54 #[.pointer (at0 k), Rnd.vM m, jT at'] H (OutF H0 k (t.round at' (strip m) (ids t.p) (ids t.p))) := by
  have hrnd := fun {H' : PHeap} (h' : TkB F H' k t x) {oa ob : Option Addr} {n c q d : Nat} (r1 : RdL H' iE 1 oa n (ids t.p)) (r2 : RdL H' iE 1 ob q (ids t.p)) (hb : ∀ z, ob = some z → z.block ≠ k) => round_okF (c := c) (d := d) hF h' ha hov r1 r2 hb (by rw [← r1.len]; exact ids_len' hp) (by rw [← r2.len]; exact ids_len' hp) hm hk h1
  have hl := ids_len' hp
  obtain ⟨y1, y2, y3, y4, y5, y6, y7, y8, y9, y10, ⟨ya, yb, yc, yl⟩, ⟨za, zb, zc, zl⟩, ⟨wa, wb, wc, wl⟩⟩ := m
  refine choAll.vc (at0 k) y1 y2 y3 y4 y5 y6 y7 y8 y9 y10 ya yb yc za zb zc wa wb wc (jT at') H _ ⟨H, Sub.refl _, obP k, obP k, _, _, _, _, _, _, planR h, obP k, obP k, _, _, _, _, _, _, planR h, (planAll_ok hp).mono ?_⟩
  rintro _ H36 ⟨a37, k38, k39, rfl, o37, s36, f37⟩
  refine ⟨a37, k38, k39, rfl, s36, (planAll_ok hp).mono ?_⟩
  rintro _ H41 ⟨a42, k43, k44, rfl, o42, s41, f42⟩
  refine ⟨a42, k43, k44, rfl, s36.trans s41, (hrnd ((h.mono s36).mono s41) ((o37.rd (E := iE) (sz := 1) (by omega) Rnd.iLen).mono s41) (o42.rd (E := iE) (sz := 1) (by omega) Rnd.iLen) (f42.ne (h.bx.sub s36))).mono ?_⟩
  exact fun v H' ho => outF_slice ho fun _ h => h
theorem all_okO {H0 F H : PHeap} {k : Nat} {t : TS} {x : TV} {at' : Int} {m : Msg} (hF : Sub H0 F) (h : TkB F H k t x) (hp : t.p.ok = true) (ha : at' = 1 ∨ at' = 3 ∨ at' = 5 ∨ at' = 7) (hov : decide (t.at_ = 0) = decide (at' = 0))
    (hm : OkM F m) (hk : m.1 = kT at') (h1 : at' = 1 → x.su = pl0 ∧ x.ch = pl0 ∧ t.sus = []) :
    Triple Tryz.prog 54 #[.pointer (at0 k), Rnd.vM m, jT at'] H (OutT H0 k (t.round at' (strip m) (ids t.p) (ids t.p))) :=
  (all_okF hF h hp ha hov hm hk h1).mono fun _ _ ho => ho.out
/-- What is known of the pages. -/
theorem pgt {F B : PHeap} {k : Nat} {t : TS} {x : TV} (h : TkB F B k t x) : PgT tTk ((cellsT t x).take 35) ((cellsT t x).drop 38) F B k t.pn t.after t.ps :=
  ⟨h.sub, h.off, x.pn.a, x.pn.n, x.pn.c, x.ps.a, x.ps.n, x.ps.c, h.bx, h.pn, h.ps, h.ap.ps, h.ap.psk⟩
theorem okM0 (F : PHeap) (a b c d e f g h i : Int) (s : ByteArray) : OkM F (a, b, c, d, s, e, f, g, h, i, no3) := ⟨RdL.nil _ _ _, RdL.nil _ _ _, RdL.nil _ _ _, by simp, by simp, by simp⟩
/-- The end, told as an answer. -/
theorem end_out {H0 F H : PHeap} {k : Nat} {t : TS} {x : TV} {Q : Value → PHeap → Prop} (hF : Sub H0 F) (h : TkB F H k t x) (hQ : ∀ H', OutT H0 k (t.over, []) (.slice none 0 0) H' → Q (.slice none 0 0) H') :
    Triple Tryz.prog 21 #[.pointer (at0 k)] H fun v H' => ∃ a n c, v = .slice a n c ∧ Q (.slice a n c) H' := by
  refine (end_okO hF h).mono ?_
  rintro _ H' ⟨rfl, hS, _⟩
  exact ⟨none, 0, 0, rfl, hQ H' ⟨SaidL.nil _, hS⟩⟩
theorem out_slice {H0 : PHeap} {k : Nat} {r : TS × List Msg} {v : Value} {H' : PHeap} {Q : Value → PHeap → Prop} (h : OutT H0 k r v H') (hQ : ∀ v, OutT H0 k r v H' → Q v H') : ∃ a n c, v = .slice a n c ∧ Q (.slice a n c) H' := by
  obtain ⟨⟨b, n, c, l, rfl, q1⟩, q2⟩ := h
  exact ⟨b, n, c, rfl, hQ _ ⟨⟨b, n, c, l, rfl, q1⟩, q2⟩⟩
theorem name_okO {H0 F H : PHeap} {k : Nat} {t : TS} {x : TV} (hF : Sub H0 F) (h : TkB F H k t x) (hp : t.p.ok = true) (h0 : t.at_ ≠ 0) (hc : Core t) :
    Triple Tryz.prog 91 #[.pointer (at0 k)] H (OutT H0 k t.name) := by
  have hnl := h.nm.len
  have hsl := (h.su.rd (E := iE) (sz := 1) (by omega) Rnd.iLen).len
  have hs256 := asc_ids hp hc.sua hc.sui
  have hp256 := asc_ids hp hc.psa hc.psi
  have hov : decide (t.at_ = 0) = false := decide_eq_false h0
  have hdef : t.name = match t.names with | nm :: _ => t.agree nm (!t.ps.isEmpty) 2 | [] => if t.sus.isEmpty then (t.over, []) else t.round 3 mJoin t.sus t.sus := rfl
  refine choName.vc (at0 k) H _ ⟨obP k, obP k, _, _, _, h.bx.fld (i := 38) rfl, fun e => ?_, fun e => ⟨obP k, obP k, _, _, _, h.bx.fld (i := 39) rfl, fun e2 => ?_, fun e2 => ?_⟩⟩
  · have hpos : 0 < x.nm.n := by simpa using e
    obtain ⟨nm, hnm, hnr⟩ := h.nm.ex (i := (0 : Int)) (by omega) (by omega)
    have hnm' : t.names[0]? = some nm := hnm
    have hd : t.name = t.agree nm (!t.ps.isEmpty) 2 := by
      rw [hdef]
      cases hl : t.names with
      | nil => rw [hl] at hnm'; cases hnm'
      | cons a r => rw [hl] at hnm'; cases hnm'; rfl
    refine ⟨H, Sub.refl _, obP k, obP k, _, _, _, h.bx.fld (i := 38) rfl, h.nm.ob (by omega) (by omega), nm, hnr.mono h.sub, obP k, obP k, (Page.sus_okT (pgt h) (by omega)).mono ?_⟩
    rintro _ H11 ⟨b, m, c, rfl, r11, s11⟩
    have hm := r11.len
    refine ⟨b, m, c, rfl, s11, ?_⟩
    have hfb : decide ((m : Int) > 0) = !t.ps.isEmpty := by
      cases hps : t.ps with
      | nil => rw [hps] at hm; subst hm; rfl
      | cons a r => rw [hps] at hm; simp at hm ⊢; omega
    rw [hfb, hd]
    refine (agree_okO (at' := 2) hF (h.mono s11) hp (.inr trivial) (.inl rfl) (by rw [hov]; rfl)).mono ?_
    exact fun v H' ho => out_slice ho fun _ h => h
  · have hn0 : t.names = [] := List.eq_nil_of_length_eq_zero (by simp at e; omega)
    have hpos : 0 < x.su.n := by simpa using e2
    have hd : t.name = t.round 3 mJoin t.sus t.sus := by
      rw [hdef, hn0]
      show (if t.sus.isEmpty then (t.over, []) else t.round 3 mJoin t.sus t.sus) = _
      rw [if_neg]
      intro he
      have : t.sus = [] := by simpa using he
      rw [this] at hsl
      simp at hsl
      omega
    have rs := h.su.rd (E := iE) (sz := 1) (by omega) Rnd.iLen
    rw [hd]
    refine ⟨H, Sub.refl _, obP k, obP k, _, _, _, h.bx.fld (i := 39) rfl, obP k, obP k, _, _, _, h.bx.fld (i := 39) rfl, (round_okO (m := (7, 0, 0, 0, ⟨#[]⟩, 0, 0, 0, 0, 0, no3)) (at' := 3) hF h (.inr (.inl rfl)) (by rw [hov]; rfl) rs rs h.ap.suk (by omega) (by omega) (okM0 _ _ _ _ _ _ _ _ _ _ _) rfl (fun e => by cases e)).mono ?_⟩
    exact fun v H' ho => out_slice ho fun _ h => h
  · have hn0 : t.names = [] := List.eq_nil_of_length_eq_zero (by simp at e; omega)
    have hs0 : t.sus = [] := List.eq_nil_of_length_eq_zero (by simp at e2; omega)
    have hd : t.name = (t.over, []) := by rw [hdef, hn0, hs0]; rfl
    rw [hd]
    exact end_out hF h fun _ h => h
/-- What is so of a task that waits. -/
structure TkI (H0 F A B H : PHeap) (k : Nat) (t : TS) (x : TV) : Prop where
  s0 : Sub H0 F
  parts : Parts F A B H
  b : TkB F B k t x
  a : TkA F A t x
theorem TkI.tks {H0 F A B H : PHeap} {k : Nat} {t : TS} {x : TV} (h : TkI H0 F A B H k t x) : TkS H0 H k t := ⟨F, A, B, x, h.s0, h.parts, h.b, h.a⟩
theorem TkI.bx {H0 F A B H : PHeap} {k : Nat} {t : TS} {x : TV} (h : TkI H0 F A B H k t x) : Bx H k tTk (cellsT t x) := h.b.bx.sub h.parts.b
theorem TkI.all {H0 F A B H : PHeap} {k : Nat} {t : TS} {x : TV} (h : TkI H0 F A B H k t x) : TkB F H k t x := h.b.mono h.parts.b
theorem TkI.mono {H0 F A B H H' : PHeap} {k : Nat} {t : TS} {x : TV} (h : TkI H0 F A B H k t x) (hs : Sub H H') : TkI H0 F A B H' k t x := ⟨h.s0, h.parts.mono hs, h.b, h.a⟩
/-- A question to its round. -/
theorem rnd_all {H0 F A B H : PHeap} {k kr : Nat} {t : TS} {x : TV} {asks : List Msg} {got : List (Int × Msg)} (h : TkI H0 F A B H k t x) (hR : RdS F A kr asks t.wait got t.tries) (hB : Both got t.G) :
    Triple Tryz.prog 45 #[.pointer (at0 kr)] H fun v H' => v = .bool (allG t.wait t.G) ∧ TkI H0 F A B H' k t x := by
  refine ((Rnd.all_ok hR).frame h.parts.a).mono ?_
  rintro _ H' ⟨A', ⟨rfl, hs⟩, hs', hk⟩
  refine ⟨by rw [all_eq hB], h.mono ⟨fun q o hq => ?_⟩⟩
  cases ha : A q with
  | none => exact (hk q o hq ha).1
  | some o' =>
    have h1 := h.parts.a.le q o' ha
    rw [hq] at h1; injection h1 with e; subst e
    exact hs'.le _ _ (hs.le _ _ ha)
theorem answered_okO {H0 F A B H : PHeap} {k : Nat} {t : TS} {x : TV} (h : TkI H0 F A B H k t x) (hg : t.agrees = false) (h0 : t.at_ ≠ 0) :
    Triple Tryz.prog 62 #[.pointer (at0 k)] H fun v H' => OutT H0 k t.answered v H' ∧ (allG t.wait t.G = false → v = .slice none 0 0 ∧ TkI H0 F A B H' k t x) := by
  obtain ⟨_, _, kr, asks, got, hr, hR, hB, _⟩ := h.a.rd hg h0
  have hdef : t.answered = if allG t.wait t.G then (t.over, []) else (t, []) := rfl
  refine choAnswered.vc (at0 k) H _ ⟨obP k, obP k, _, h.bx.fld (i := 11) rfl, ?_⟩
  rw [hr]
  refine (rnd_all h hR hB).mono ?_
  rintro _ H4 ⟨rfl, h4⟩
  refine ⟨_, rfl, fun e => ?_, fun e => ?_⟩
  · rw [hdef, if_pos e]
    exact end_out (Q := fun v H' => OutT H0 k (t.over, []) v H' ∧ (allG t.wait t.G = false → v = .slice none 0 0 ∧ TkI H0 F A B H' k t x)) h.s0 h4.all fun H' ho => ⟨ho, fun e' => by rw [e] at e'; cases e'⟩
  · rw [hdef, if_neg (by rw [e]; decide)]
    exact ⟨⟨SaidL.nil _, h4.tks⟩, fun _ => ⟨rfl, h4⟩⟩
end Go.Cho
namespace Go.Vx
theorem Bx.readsL {H : PHeap} {k : Nat} {t : TypeId} {l : List Value} (h : Bx H k t l) (off : Nat) (l2 : List Value) (hl : (l.drop off).take l2.length = l2) : Reads H (Vx.fldA (at0 k) off) l2 := h.readsAt off fun i v hv => by
  have hi : i < l2.length := (List.getElem?_eq_some_iff.1 hv).1
  rw [← hl, List.getElem?_take, if_pos hi, List.getElem?_drop] at hv
  exact hv
end Go.Vx
namespace Go.Cho
open Go.Vx Go.Vc Go.Proofs Go.Pln Go.Stl Go.Agr
open Go.Hp (rest_ok restL restL_spec restL_len Asc asc_ext has_ok refRest_ok)
open Go.Rnd (takesG insG froms againG OkM AscG RdS Both)
open Go.Txt (sE)
open Go.Page (limL namesL susL susStep cntL sumN names_ noS stateL PgT)
def blkO (p : Pl) : List Nat := p.a.toList.map (·.block)
theorem mem_blkO {p : Pl} {q : Nat} : q ∈ blkO p ↔ ∃ z, p.a = some z ∧ z.block = q := by
  unfold blkO
  rw [List.mem_map]
  exact ⟨fun ⟨z, hz, e⟩ => ⟨z, by simpa using hz, e⟩, fun ⟨z, hz, e⟩ => ⟨z, by simp [hz], e⟩⟩
/-- What turns when a task does. -/
def ksO (k : Nat) (x : TV) : List Nat := k :: (blkO x.ps ++ blkO x.su ++ blkO x.ch)
theorem mem_ksO {k : Nat} {x : TV} {q : Nat} : q ∈ ksO k x ↔ q = k ∨ (∃ z, x.ps.a = some z ∧ z.block = q) ∨ (∃ z, x.su.a = some z ∧ z.block = q) ∨ ∃ z, x.ch.a = some z ∧ z.block = q := by
  unfold ksO
  rw [List.mem_cons, List.mem_append, List.mem_append, mem_blkO, mem_blkO, mem_blkO, or_assoc]
/-- All that does not turn is known. -/
theorem TkB.big {F H : PHeap} {k : Nat} {t : TS} {x : TV} (h : TkB F H k t x) : TkB (rest H (ksO k x)) H k t x ∧ Sub F (rest H (ksO k x)) := by
  have hs : Sub F (rest H (ksO k x)) := rest_le h.sub fun q hq => by
    rcases mem_ksO.1 hq with rfl | ⟨z, hz, rfl⟩ | ⟨z, hz, rfl⟩ | ⟨z, hz, rfl⟩
    · exact h.off
    · exact h.ap.ps z hz
    · exact h.ap.su z hz
    · exact h.ap.ch z hz
  refine ⟨⟨rest_sub _ _, rest_none (mem_ksO.2 (.inl rfl)), h.bx, h.pn.mono hs, h.ps, h.nm.mono hs, h.nmc, h.su, h.ch, ⟨fun z hz => rest_none (mem_ksO.2 (.inr (.inl ⟨z, hz, rfl⟩))), fun z hz => rest_none (mem_ksO.2 (.inr (.inr (.inl ⟨z, hz, rfl⟩)))), fun z hz => rest_none (mem_ksO.2 (.inr (.inr (.inr ⟨z, hz, rfl⟩)))), h.ap.psk, h.ap.suk, h.ap.chk, h.ap.pu, h.ap.pc, h.ap.uc⟩, h.an, h.aw.mono hs⟩, hs⟩
/-- A block that is there, and does not turn. -/
theorem not_ksO {F H : PHeap} {k : Nat} {t : TS} {x : TV} (h : TkB F H k t x) {oa : Option Addr} (ho : Off H oa) : ∀ a, oa = some a → a.block ∉ ksO k x := fun a ha hq => by
  have hn := ho a ha
  have bl : ∀ {ty : TypeId} {sz n c : Nat} {ob : Option Addr} {xs : List Value} {z : Addr}, Owns H ty sz ob n c xs → ob = some z → z.block = a.block → False := fun hw hz e => by
    subst hz
    obtain ⟨o, hb⟩ := hw.blk
    rw [e, hn] at hb; cases hb
  rcases mem_ksO.1 hq with e | ⟨z, hz, e⟩ | ⟨z, hz, e⟩ | ⟨z, hz, e⟩
  · have := h.bx
    unfold Bx at this
    rw [← e, hn] at this; cases this
  · exact bl h.ps hz e
  · exact bl h.su hz e
  · exact bl h.ch hz e
theorem names_own {tp : TypeId} {PA PB : List Value} {F H : PHeap} {k : Nat} {names : List ByteArray} {after : ByteArray} {sus : List Int} (h : PgT tp PA PB F H k names after sus) (hn : names.length ≤ 100000) :
    Triple Tryz.prog 89 #[.pointer (pt k PA)] H fun v H' => ∃ b n c, v = .slice b n c ∧ OwnL H' 9 sE 1 b n c names ∧ Sub H H' ∧ Off H b := by
  obtain ⟨oa, n, c, ob, m, d, h1, h2, _⟩ := h.row
  have hl := h2.len
  refine Vc.pNames.vc (pt k PA) H _ ⟨fun e => by simp [pt, at0, fldA] at e, fun _ => ⟨obA k PA, obA k PA, oa, n, c, h1.fldA rfl, (Page.cloneS_ok (h2.mono h.sub) (by omega)).mono ?_⟩⟩
  rintro _ H' ⟨b, q, rfl, g1, g2, g3⟩
  exact ⟨b, n, q, rfl, b, n, q, rfl, g1, g2, g3⟩
theorem sus_own {tp : TypeId} {PA PB : List Value} {F H : PHeap} {k : Nat} {names : List ByteArray} {after : ByteArray} {sus : List Int} (h : PgT tp PA PB F H k names after sus) (hn : sus.length ≤ 100000) :
    Triple Tryz.prog 90 #[.pointer (pt k PA)] H fun v H' => ∃ b n c, v = .slice b n c ∧ OwnL H' 3 iE 1 b n c sus ∧ Sub H H' ∧ Off H b := by
  obtain ⟨oa, n, c, ob, m, d, h1, h2, h3, _⟩ := h.row
  have hr := h3.rd (E := iE) (sz := 1) (by omega) Rnd.iLen
  have hl := hr.len
  refine Vc.pSus.vc (pt k PA) H _ ⟨fun e => by simp [pt, at0, fldA] at e, fun _ => ⟨obA k PA, obA k PA, ob, m, d, h1.fldA rfl, (Rnd.cloneI_ok hr (by omega)).mono ?_⟩⟩
  rintro _ H' ⟨b, q, rfl, g1, g2, g3⟩
  exact ⟨b, m, q, rfl, b, m, q, rfl, g1, g2, g3⟩
theorem list_okF {H0 F H : PHeap} {k : Nat} {t : TS} {x : TV} (hF : Sub H0 F) (h : TkB F H k t x) (hp : t.p.ok = true) (hov : decide (t.at_ = 0) = false) (h1 : x.su = pl0 ∧ x.ch = pl0 ∧ t.sus = []) :
    Triple Tryz.prog 22 #[.pointer (at0 k)] H (OutF H0 k (t.round 1 (mNames t.after) (ids t.p) (ids t.p))) := by
  refine choList.vc (at0 k) H _ ⟨obP k, obP k, (Page.after_okT (pgt h)).mono ?_⟩
  rintro _ H3 ⟨rfl, hH⟩
  rw [hH]
  refine ⟨t.after, rfl, (all_okF (at' := 1) (m := (6, 0, 0, 0, t.after, 0, 0, 0, 0, 0, no3)) hF h hp (.inl rfl) (by rw [hov]; rfl) (okM0 _ _ _ _ _ _ _ _ _ _ _) rfl fun _ => h1).mono ?_⟩
  exact fun v H' ho => outF_slice ho fun _ h => h
theorem list_okO {H0 F H : PHeap} {k : Nat} {t : TS} {x : TV} (hF : Sub H0 F) (h : TkB F H k t x) (hp : t.p.ok = true) (hov : decide (t.at_ = 0) = false) (h1 : x.su = pl0 ∧ x.ch = pl0 ∧ t.sus = []) :
    Triple Tryz.prog 22 #[.pointer (at0 k)] H (OutT H0 k (t.round 1 (mNames t.after) (ids t.p) (ids t.p))) :=
  (list_okF hF h hp hov h1).mono fun _ _ ho => ho.out
theorem listed_okO {H0 F A B H : PHeap} {k : Nat} {t : TS} {x : TV} {b : Nat} (h : TkI H0 F A B H k t x) (hi : Iv b t) (hb : b ≤ 80000) (hn : t.p.n ≤ 100) (h1 : t.at_ = 1) :
    Triple Tryz.prog 56 #[.pointer (at0 k)] H fun v H' => (enoughB t = true → OutT (rest H (ksO k x)) k t.listed v H') ∧ (enoughB t = false → OutT H0 k t.answered v H' ∧ (allG t.wait t.G = false → v = .slice none 0 0 ∧ TkI H0 F A B H' k t x)) := by
  have hg : t.agrees = false := by unfold TS.agrees; rw [h1]; rfl
  have h0 : t.at_ ≠ 0 := by omega
  have hp := hi.pok h0
  have hov : decide (t.at_ = 0) = false := decide_eq_false h0
  obtain ⟨_, _, kr, asks, got, hr, hR, hB, _, _, hGok⟩ := h.a.rd hg h0
  have hno := h.a.no h1
  obtain ⟨i1, i2, i3⟩ := hi.at1' h1
  have pok := Plan.ok_iff.1 hp
  have hG100 : t.G.length ≤ 100 := by
    have := asc_len (froms t.G) 0 t.p.n (by have := pok.n1; omega) hi.core.asc fun z hz => by
      obtain ⟨m, hm, rfl⟩ := List.mem_map.1 hz
      exact ids_mem (hi.core.win _ (hi.core.gin m hm))
    rw [List.length_map] at this
    omega
  have hps := asc_ids hp hi.core.psa hi.core.psi
  have hdef : t.listed = if enoughB t then (if (limL (listL t.G)).1 then TS.name { t.turned with names := t.turned.pn, sus := t.turned.ps } else t.turned.round 1 (mNames t.turned.after) (ids t.p) (ids t.p)) else t.answered := rfl
  refine choListed.vc (at0 k) H _ ⟨obP k, obP k, _, h.bx.fld (i := 11) rfl, ?_⟩
  rw [hr]
  refine (Rnd.got_own (hR.mono h.parts.a) (by rw [got_len hB]; omega)).mono ?_
  rintro _ H4 ⟨b5, n6, c7, K, rfl, hK, hrd, s4, f5⟩
  have hKG : (K.map fun i => (mlook got i).getD Rnd.z0) = t.G := hB.got hK
  rw [hKG] at hrd
  have hgl := hrd.len
  have h4 := h.mono s4
  obtain ⟨hBig, hsF⟩ := h4.all.big
  have hrF : RdL (rest H4 (ksO k x)) mE 13 b5 n6 t.G := hrd.rest fun a ha hq => not_ksO h.all f5 a ha hq
  have hokF : ∀ m ∈ t.G, Page.OkP (rest H4 (ksO k x)) m := fun m hm => ((hGok m hm).mono hsF).p
  refine ⟨b5, n6, c7, rfl, H4, Sub.refl _, obP k, obP k, obP k, obP k, _, _, _, _, _, _, planR h4.all, (Page.enough_ok (p := t.p) (pgt hBig) hrF hokF (by omega)).mono ?_⟩
  rintro _ H16 ⟨rfl, s16⟩
  have heB : (t.p.ok && decide ((cntL t.G : Int) ≥ t.p.n - t.p.w + 1)) = enoughB t := rfl
  rw [heB]
  refine ⟨_, rfl, fun e => ?_, fun e => ⟨obP k, obP k, ?_⟩⟩
  · have e' : enoughB t = false := by simpa using e
    refine (answered_okO (h4.mono s16) hg h0).mono ?_
    rintro _ H' ⟨⟨⟨b1, n1, c1, l1, rfl, q1⟩, q2⟩, hv⟩
    exact ⟨b1, n1, c1, rfl, (fun e => by rw [e'] at e; cases e), fun _ => ⟨⟨⟨b1, n1, c1, l1, rfl, q1⟩, q2⟩, hv⟩⟩
  · have e' : enoughB t = true := by simpa using e
    rw [hdef, if_pos e']
    have hsf := sumN_filter (fun m => kind_ m == 20) t.G
    have hsf' : sumN (listL t.G) ≤ sumN t.G := hsf
    refine (Page.turnT_ok (pgt (hBig.mono s16)) hrF hokF (by omega) (by show t.pn.length + sumN (listL t.G) ≤ 90000; omega) (by omega)).mono ?_
    rintro _ H24 ⟨rfl, F', sF', hT⟩
    have hlf : (t.G.filter fun m => kind_ m == 20) = listL t.G := rfl
    rw [hlf] at hT ⊢
    obtain ⟨oa, n, c, ob, m, d, r1, r2, r3, r4, r5⟩ := hT.row
    obtain ⟨no1, no2, no3'⟩ := hno
    have hTB : TkB F' H24 k t.turned { x with pn := ⟨oa, n, c⟩, ps := ⟨ob, m, d⟩ } := by
      refine ⟨hT.sub, hT.off, r1, r2, r3, hBig.nm.mono sF', hBig.nmc, ?_, ?_, ⟨r4, ?_, ?_, r5, ?_, ?_, ?_, ?_, ?_⟩, hBig.an, hBig.aw.mono sF'⟩
      · show OwnL H24 3 iE 1 x.su.a x.su.n x.su.c t.sus
        rw [no1, no3']; exact Owns.nil _ _ 1
      · show OwnL H24 34 chE 3 x.ch.a x.ch.n x.ch.c t.chores
        rw [no2, i1]; exact Owns.nil _ _ 3
      · show Off F' x.su.a
        rw [no1]; exact Off.none _
      · show Off F' x.ch.a
        rw [no2]; exact Off.none _
      · show ∀ z, x.su.a = some z → z.block ≠ k
        rw [no1]; exact fun z hz => by cases hz
      · show ∀ z, x.ch.a = some z → z.block ≠ k
        rw [no2]; exact fun z hz => by cases hz
      · show ∀ z y, ob = some z → x.su.a = some y → z.block ≠ y.block
        rw [no1]; exact fun z y _ hz => by cases hz
      · show ∀ z y, ob = some z → x.ch.a = some y → z.block ≠ y.block
        rw [no2]; exact fun z y _ hz => by cases hz
      · show ∀ z y, x.su.a = some z → x.ch.a = some y → z.block ≠ y.block
        rw [no1]; exact fun z y hz => by cases hz
    have hF' : Sub (rest H (ksO k x)) F' := (rest_to fun q o hq ho => by rw [rest_at hq]; exact s4.le _ _ ho : Sub (rest H (ksO k x)) (rest H4 (ksO k x))).trans sF'
    have wrap : ∀ {r : TS × List Msg} {v : Value} {H' : PHeap}, OutT (rest H (ksO k x)) k r v H' → ∃ a n c, v = .slice a n c ∧ ((enoughB t = true → OutT (rest H (ksO k x)) k r (.slice a n c) H') ∧ (enoughB t = false → OutT H0 k t.answered (.slice a n c) H' ∧ (allG t.wait t.G = false → Value.slice a n c = .slice none 0 0 ∧ TkI H0 F A B H' k t x))) := fun {r} {v} {H'} ho => out_slice (Q := fun v H' => (enoughB t = true → OutT (rest H (ksO k x)) k r v H') ∧ (enoughB t = false → OutT H0 k t.answered v H' ∧ (allG t.wait t.G = false → v = .slice none 0 0 ∧ TkI H0 F A B H' k t x))) ho fun v h => ⟨fun _ => h, fun e => by rw [e'] at e; cases e⟩
    refine ⟨_, rfl, fun e2 => ?_, fun e2 => ?_⟩
    · have e2' : (limL (listL t.G)).1 = false := by simpa using e2
      rw [if_neg (by rw [e2']; decide)]
      refine (list_okO (t := t.turned) hF' hTB hp hov ⟨no1, no2, no3'⟩).mono fun v H' ho => wrap ho
    · have e2' : (limL (listL t.G)).1 = true := by simpa using e2
      rw [if_pos e2']
      have hpl : t.turned.pn.length ≤ 100000 := by
        have := Page.namesL_len (limL (listL t.G)) t.pn (listL t.G)
        show (namesL (limL (listL t.G)) t.pn (listL t.G)).length ≤ 100000
        omega
      have hcT := turned_core hi.core
      have hpsT : t.turned.ps.length ≤ 256 := asc_ids hp hcT.psa hcT.psi
      refine ⟨H24, Sub.refl _, obP k, obP k, obP k, obP k, (names_own (pgt hTB) hpl).mono ?_⟩
      rintro _ H33 ⟨b34, n35, c36, rfl, o34, s33, f34⟩
      have hTB3 := hTB.mono s33
      refine ⟨b34, n35, c36, rfl, (sus_own (pgt hTB3) (by omega)).mono ?_⟩
      rintro _ H38 ⟨b39, n40, c41, rfl, o39, s38, f39⟩
      have hTB4 := hTB3.mono s38
      have o34' := Owns.mono (H' := H38) o34 fun a o _ hb => s38.le _ _ hb
      -- the names come to be known
      have sb : Sub F' H38 := hTB4.sub
      have nek : ∀ z, b34 = some z → z.block ≠ k := f34.ne hTB.bx
      have nek2 : ∀ z, b39 = some z → z.block ≠ k := f39.ne hTB3.bx
      have nps : ∀ z y, ob = some z → b34 = some y → z.block ≠ y.block := fun z y hz hy e => by
        subst hz
        obtain ⟨o, ho⟩ := r3.blk
        have := f34 y hy
        rw [← e, ho] at this; cases this
      have n34 : ∀ z y, b39 = some z → b34 = some y → z.block ≠ y.block := fun z y hz hy e => by
        subst hy
        obtain ⟨o, ho⟩ := o34.blk
        have := f39 z hz
        rw [e, ho] at this; cases this
      have nps2 : ∀ z y, ob = some z → b39 = some y → z.block ≠ y.block := fun z y hz hy e => by
        subst hz
        obtain ⟨o, ho⟩ := r3.blk
        have := f39 y hy
        rw [← e, s33.le _ _ ho] at this; cases this
      let Fn : PHeap := rest H38 (k :: (ob.toList.map (·.block) ++ b39.toList.map (·.block)))
      have hin : ∀ {q : Nat}, q ∈ (k :: (ob.toList.map (·.block) ++ b39.toList.map (·.block))) ↔ q = k ∨ (∃ z, ob = some z ∧ z.block = q) ∨ ∃ z, b39 = some z ∧ z.block = q := fun {q} => by
        rw [List.mem_cons, List.mem_append, List.mem_map, List.mem_map]
        constructor
        · rintro (e | ⟨z, hz, e⟩ | ⟨z, hz, e⟩)
          · exact .inl e
          · exact .inr (.inl ⟨z, by simpa using hz, e⟩)
          · exact .inr (.inr ⟨z, by simpa using hz, e⟩)
        · rintro (e | ⟨z, hz, e⟩ | ⟨z, hz, e⟩)
          · exact .inl e
          · exact .inr (.inl ⟨z, by simp [hz], e⟩)
          · exact .inr (.inr ⟨z, by simp [hz], e⟩)
      have hFn : Sub F' Fn := rest_le sb fun q hq => by
        rcases hin.1 hq with rfl | ⟨z, hz, rfl⟩ | ⟨z, hz, rfl⟩
        · exact hTB.off
        · exact r4 z hz
        · exact (f39.sub (hTB.sub.trans s33)) z hz
      have rn : RdL Fn sE 1 b34 n35 t.turned.pn := (o34'.rd (E := sE) (sz := 1) (by omega) Txt.sLen).rest fun z hz hq => by
        rcases hin.1 hq with e | ⟨y, hy, e⟩ | ⟨y, hy, e⟩
        · exact nek z hz e
        · exact nps y z hy hz e
        · exact n34 y z hy hz e
      have hTB5 : TkB Fn H38 k { t.turned with names := t.turned.pn, sus := t.turned.ps } { x with pn := ⟨oa, n, c⟩, ps := ⟨ob, m, d⟩ } → True := fun _ => trivial
      have w1 := hTB4.bx.put (i := 38) (x := .slice b34 n35 c36) (by show 38 < 42; decide)
      refine ⟨b39, n40, c41, rfl, obP k, obP k, _, w1, obP k, obP k, ?_⟩
      have c1 : Bx (H38.upd k (.cells (cellsT t.turned { x with pn := ⟨oa, n, c⟩, ps := ⟨ob, m, d⟩, nm := ⟨b34, n35, c36⟩ }).toArray tTk (0, 0))) k tTk (cellsT t.turned { x with pn := ⟨oa, n, c⟩, ps := ⟨ob, m, d⟩, nm := ⟨b34, n35, c36⟩ }) := Bx.new _ _ _ _
      refine ⟨_, c1.put (i := 39) (x := .slice b39 n40 c41) (by show 39 < 42; decide), ?_⟩
      have up : ∀ {o1 o2 : Obj} {q : Nat}, q ≠ k → ((H38.upd k o1).upd k o2) q = H38 q := fun e => by rw [Vx.upd_ne _ _ e, Vx.upd_ne _ _ e]
      have hFin : TkB Fn ((H38.upd k (.cells (cellsT t.turned { x with pn := ⟨oa, n, c⟩, ps := ⟨ob, m, d⟩, nm := ⟨b34, n35, c36⟩ }).toArray tTk (0, 0))).upd k (.cells (cellsT { t.turned with names := t.turned.pn, sus := t.turned.ps } { x with pn := ⟨oa, n, c⟩, ps := ⟨ob, m, d⟩, nm := ⟨b34, n35, c36⟩, su := ⟨b39, n40, c41⟩ }).toArray tTk (0, 0))) k { t.turned with names := t.turned.pn, sus := t.turned.ps } { x with pn := ⟨oa, n, c⟩, ps := ⟨ob, m, d⟩, nm := ⟨b34, n35, c36⟩, su := ⟨b39, n40, c41⟩ } := by
        refine ⟨((rest_sub _ _).wr (rest_none (by simp))).wr (rest_none (by simp)), rest_none (by simp), Bx.new _ _ _ _, hTB4.pn.mono hFn, ?_, rn, o34.le, ?_, ?_, ⟨?_, ?_, ?_, r5, nek2, ?_, nps2, ?_, ?_⟩, hTB4.an, hTB4.aw.mono hFn⟩
        · exact hTB4.ps.mono fun z o hz hb => by rw [up (r5 z hz)]; exact hb
        · exact o39.mono fun z o hz hb => by rw [up (nek2 z hz)]; exact hb
        · show OwnL _ 34 chE 3 x.ch.a x.ch.n x.ch.c t.chores
          rw [no2, i1]; exact Owns.nil _ _ 3
        · exact fun z hz => rest_none (hin.2 (.inr (.inl ⟨z, hz, rfl⟩)))
        · exact fun z hz => rest_none (hin.2 (.inr (.inr ⟨z, hz, rfl⟩)))
        · show Off _ x.ch.a
          rw [no2]; exact Off.none _
        · show ∀ z, x.ch.a = some z → z.block ≠ k
          rw [no2]; exact fun z hz => by cases hz
        · show ∀ z y, ob = some z → x.ch.a = some y → z.block ≠ y.block
          rw [no2]; exact fun z y _ hz => by cases hz
        · show ∀ z y, b39 = some z → x.ch.a = some y → z.block ≠ y.block
          rw [no2]; exact fun z y _ hz => by cases hz
      have hcF : Core { t.turned with names := t.turned.pn, sus := t.turned.ps } := ⟨hcT.win, hcT.wl, hcT.gin, hcT.asc, hcT.psa, hcT.psi, hcT.psa, hcT.psi, hcT.aw, hcT.al, hcT.ast⟩
      exact (name_okO (hF'.trans hFn) hFin hp h0 hcF).mono fun v H' ho => wrap ho
end Go.Cho
namespace Go.Cho
open Go.Vx Go.Vc Go.Proofs Go.Pln Go.Stl Go.Agr
open Go.Hp (rest_ok restL restL_spec restL_len Asc asc_ext has_ok refRest_ok)
open Go.Rnd (takesG insG froms againG OkM AscG RdS Both)
open Go.Txt (sE)
open Go.Page (limL namesL susL susStep cntL sumN names_ noS stateL PgT)
/-- Behind an agreement: what was agreed lies in the task. -/
structure Res (F : PHeap) (t : TS) (x : TV) : Prop where
  s : x.s = t.A
  sl : SlA F t.A x.rx
  sml : Sml t.A
  said : ∀ m ∈ t.A.said, OkM F m
theorem Res.mono {F F' : PHeap} {t : TS} {x : TV} (h : Res F t x) (hs : Sub F F') : Res F' t x := ⟨h.s, h.sl.mono hs, h.sml, fun m hm => (h.said m hm).mono hs⟩
theorem purge_okO {H0 F H : PHeap} {k : Nat} {t : TS} {x : TV} (hF : Sub H0 F) (h : TkB F H k t x) (hp : t.p.ok = true) (h0 : t.at_ ≠ 0) (hr : Res F t x) :
    Triple Tryz.prog 25 #[.pointer (at0 k)] H (OutT H0 k t.purge) := by
  have hov : decide (t.at_ = 0) = false := decide_eq_false h0
  have hal := hr.sl.a.len
  have hdef : t.purge = if t.A.value.pr || decide ((t.A.acks.length : Int) < t.p.n) then (t.over, []) else t.round 7 (mPurge t.c.nm) (ids t.p) (ids t.p) := rfl
  have e0 : x.s.value.pr = t.A.value.pr := by rw [hr.s]
  refine choPurge.vc (at0 k) H _ ⟨H, Sub.refl _, obP k, obP k, obK k 26, ⟨by simp [at0, fldA]⟩, x.s.value.pr, h.bx.fld (i := 28) rfl, fun e => ⟨obP k, obP k, obK k 26, _, _, _, h.bx.fld (i := 33) rfl, obP k, obP k, obK k 0, _, h.bx.fld (i := 0) rfl, fun e2 => ?_, fun e2 => ⟨obP k, obP k, obK k 7, _, h.bx.fld (i := 8) rfl, ?_⟩⟩, fun e => ?_⟩
  · rw [hdef, if_pos (by rw [hal, e2, Bool.or_true])]
    exact end_out hF h fun _ h => h
  · rw [hdef, if_neg (by rw [hal, e2, ← e0, e]; decide)]
    refine (all_okO (at' := 7) (m := (8, 0, 0, 0, t.c.nm, 0, 0, 0, 0, 0, no3)) hF h hp (.inr (.inr (.inr rfl))) (by rw [hov]; rfl) (okM0 _ _ _ _ _ _ _ _ _ _ _) rfl fun e => by cases e).mono ?_
    exact fun v H' ho => out_slice ho fun _ h => h
  · rw [hdef, if_pos (by rw [← e0, e]; rfl)]
    exact end_out hF h fun _ h => h
theorem mend_okO {H0 F H : PHeap} {k : Nat} {t : TS} {x : TV} (hF : Sub H0 F) (h : TkB F H k t x) (hp : t.p.ok = true) (h0 : t.at_ ≠ 0) (hr : Res F t x) :
    Triple Tryz.prog 24 #[.pointer (at0 k)] H (OutT H0 k t.mend) := by
  have hov : decide (t.at_ = 0) = false := decide_eq_false h0
  have hhl := hr.sl.h.len
  have hhs := hr.sml.holders
  have hdef : t.mend = if t.A.value.pr && (helpL t.p t.A.holders t.c.tg).isSome && !decide (t.c.tg ∈ t.A.holders) then
    t.round 5 (mHelp t.c.nm t.A.value t.c.tg (bareS ((helpL t.p t.A.holders t.c.tg).getD []))) (restL ((helpL t.p t.A.holders t.c.tg).getD [] ++ [t.c.tg]) []) [t.c.tg]
  else (t.over, []) := rfl
  have ev : x.s.value = t.A.value := by rw [hr.s]
  have rh : ∀ {G : PHeap}, Sub H G → RdL G iE 1 x.rx.h x.rx.hn t.A.holders := fun hs => hr.sl.h.mono (h.sub.trans hs)
  refine choMend.vc (at0 k) H _ ⟨obP k, obP k, obK k 26, x.s.value.pr, x.s.value.at_, x.s.value.ep, x.s.value.sz, h.bx.readsL 28 _ rfl, H, Sub.refl _, obP k, obP k, _, _, _, _, _, _, planR h, obP k, obP k, obK k 26, _, _, _, h.bx.fld (i := 32) rfl, obP k, obP k, obK k 7, _, h.bx.fld (i := 9) rfl, (helpers_ok (i := t.c.tg) hp (rh (Sub.refl _)) (by omega)).mono ?_⟩
  rintro _ H18 ⟨b, m, ok, rfl, hok, rw1, s18, f18, hne⟩
  have h18 := h.mono s18
  refine ⟨b, m, m, ok, rfl, H18, Sub.refl _, fun e1 => ⟨fun e2 => ⟨obP k, obP k, obK k 26, _, _, _, h18.bx.fld (i := 32) rfl, obP k, obP k, obK k 7, _, h18.bx.fld (i := 9) rfl, (Rnd.contains_ok (x := t.c.tg) (rh s18) (by omega)).mono ?_⟩, fun e2 => ?_⟩, fun e1 => ?_⟩
  · rintro _ H29 ⟨rfl, hH29⟩
    rw [hH29]
    have e1' : t.A.value.pr = true := by rw [← ev]; simpa using e1
    have e2' : ok = true := by simpa using e2
    have hsome : (helpL t.p t.A.holders t.c.tg).isSome = true := by rw [← hok]; exact e2'
    refine ⟨_, rfl, fun e3 => ?_, fun e3 => ?_⟩
    · have hin : decide (t.c.tg ∈ t.A.holders) = true := e3
      rw [hdef, if_neg (by rw [hin]; simp)]
      exact end_out hF h18 fun _ h => h
    · have hin : decide (t.c.tg ∈ t.A.holders) = false := e3
      rw [hdef, if_pos (by rw [e1', hsome, hin]; rfl)]
      have hwl := rw1.len
      have hwl2 := help_len hp t.A.holders t.c.tg
      have hb0 := hne e2'
      obtain ⟨w, rfl⟩ : ∃ w, b = some w := by
        cases b with
        | none => exact absurd rfl hb0
        | some w => exact ⟨w, rfl⟩
      let z : List Value := [vI 0, vI 0, vI 0, vI 0, .string ⟨#[]⟩, vI 0, vI 0, vI 0, vI 0, vI 0, .slice none 0 0, .slice none 0 0, .slice none 0 0]
      let M : List Value := [vI 10, vI 0, vI 0, vI 0, .string t.c.nm, vI x.s.value.at_, vI x.s.value.ep, vI t.c.tg, vI x.s.value.sz, vI 0, .slice (some w) m m, .slice none 0 0, .slice none 0 0]
      refine ⟨H18, Sub.refl _, obP k, obP k, obK k 7, _, h18.bx.fld (i := 8) rfl, obP k, obP k, obK k 7, _, h18.bx.fld (i := 9) rfl, fun k39 hk39 => ?_⟩
      have s39 := Sub.upd (.cells z.toArray 52 (0, 0)) hk39
      have b39 : Bx (H18.upd k39 (.cells z.toArray 52 (0, 0))) k39 52 z := Bx.new _ _ _ _
      have b40 : Bx ((H18.upd k39 (.cells z.toArray 52 (0, 0))).upd k39 (.cells M.toArray 52 (0, 0))) k39 52 M := Bx.new _ _ _ _
      have s40 := s39.wr (o := .cells M.toArray 52 (0, 0)) hk39
      refine ⟨s39, _, b39.writes M rfl, ?_⟩
      generalize (H18.upd k39 (.cells z.toArray 52 (0, 0))).upd k39 (.cells M.toArray 52 (0, 0)) = H40 at b40 s40 ⊢
      have h40 := h18.mono s40
      refine ⟨H40, Sub.refl _, _, _, _, _, _, _, _, _, _, _, _, _, _, _, _, _, _, _, _, b40.reads, obP k, obP k, obK k 7, _, h40.bx.fld (i := 9) rfl, obP k, obP k, obK k 7, _, h40.bx.fld (i := 9) rfl, fun k63 hk63 => ⟨Sub.upd _ hk63, ?_⟩⟩
      refine append_full Rnd.tI (E := iE) (x := t.c.tg) hk63 Rnd.iLen (rw1.mono s40) rfl (Rnd.iOne _) (by simp [maxLen]; omega) (by omega) ?_
      intro oa' c' H65 how s65 f65
      have h65 := h40.mono s65
      refine ⟨oa', m + 1, c', rfl, s65, (rest_ok (w := []) (how.rd (E := iE) (sz := 1) (by omega) Rnd.iLen) (RdL.nil _ _ _) (by omega) (by omega)).mono ?_⟩
      rintro _ H70 ⟨b71, n72, c73, rfl, o71, s70, f71⟩
      have h70 := h65.mono s70
      have r71 := o71.rd (E := iE) (sz := 1) (by omega) Rnd.iLen
      have hl71 := r71.len
      have hids : (restL ((helpL t.p t.A.holders t.c.tg).getD [] ++ [t.c.tg]) []).length ≤ 256 := restL_le hp fun j hj => by
        rcases List.mem_append.1 hj with hj | hj
        · exact help_ids j hj
        · simp at hj; rw [hj]; exact help_is hsome
      refine ⟨b71, n72, c73, rfl, s65.trans s70, fun k74 hk74 => ⟨(s65.trans s70).trans (Sub.upd _ hk74), ?_⟩⟩
      have s74 := Sub.upd (.cells #[vI t.c.tg] 3 (0, 0)) hk74
      have h74 := h70.mono s74
      have b74 := Bx.new H70 k74 3 (([t.c.tg] : List Int).flatMap iE)
      have sAll : Sub H18 (H70.upd k74 (.cells #[vI t.c.tg] 3 (0, 0))) := ((s40.trans s65).trans s70).trans s74
      -- the list of who help comes to be known
      obtain ⟨hBig, hsF⟩ := h74.big
      have hwF : RdL (rest (H70.upd k74 (.cells #[vI t.c.tg] 3 (0, 0))) (ksO k x)) iE 1 (some w) m ((helpL t.p t.A.holders t.c.tg).getD []) := (rw1.mono sAll).rest fun a ha hq => not_ksO h f18 a ha hq
      have hkk : k74 ≠ k := fun e => by
        have := h70.bx
        unfold Bx at this
        rw [← e, hk74] at this; cases this
      refine (round_okO (at' := 5) (m := (10, 0, 0, 0, t.c.nm, x.s.value.at_, x.s.value.ep, t.c.tg, x.s.value.sz, 0, ⟨some w, m, m, (helpL t.p t.A.holders t.c.tg).getD []⟩, ⟨none, 0, 0, []⟩, ⟨none, 0, 0, []⟩)) (hF.trans hsF) hBig (.inr (.inr (.inl rfl))) (by rw [hov]; rfl) (r71.mono s74) (Bx.rd (E := iE) (l := [t.c.tg]) Rnd.iLen b74) (fun z hz => by cases hz; exact hkk) (by omega) (by simp) ⟨hwF, RdL.nil _ _ _, RdL.nil _ _ _, by show m ≤ 100000; omega, by simp, by simp⟩ rfl fun e => by cases e).mono ?_
      intro v H' ho
      have es : strip (10, 0, 0, 0, t.c.nm, x.s.value.at_, x.s.value.ep, t.c.tg, x.s.value.sz, 0, ⟨some w, m, m, (helpL t.p t.A.holders t.c.tg).getD []⟩, ⟨none, 0, 0, []⟩, ⟨none, 0, 0, []⟩) = mHelp t.c.nm t.A.value t.c.tg (bareS ((helpL t.p t.A.holders t.c.tg).getD [])) := by
        rw [ev]; rfl
      rw [es] at ho
      exact out_slice ho fun _ h => h
  · have e2' : ok = false := by simpa using e2
    rw [hdef, if_neg (by rw [← hok, e2']; simp)]
    exact end_out hF h18 fun _ h => h
  · have e1' : t.A.value.pr = false := by rw [← ev]; simpa using e1
    rw [hdef, if_neg (by rw [e1']; simp)]
    exact end_out hF h18 fun _ h => h
end Go.Cho
namespace Go.Cho
open Go.Vx Go.Vc Go.Proofs Go.Pln Go.Stl Go.Agr
open Go.Hp (rest_ok restL restL_spec restL_len Asc asc_ext has_ok refRest_ok)
open Go.Rnd (takesG insG froms againG OkM AscG RdS Both)
open Go.Txt (sE)
open Go.Page (limL namesL susL susStep cntL sumN names_ noS stateL PgT)
abbrev tPT : TypeId := 31
theorem slA1 {α : Type} {H : PHeap} {E : α → List Value} {sz : Nat} {oa : Option Addr} {n : Nat} {l : List α} (h : RdL H E sz oa n l) {c : Nat} (h0 : 0 < n) (hc : n ≤ c) : RdL H E sz (slA oa 1 c sz) (n - 1) l.tail := by
  have := h.drop (i := 1) (by omega) hc
  rwa [List.drop_one] at this
/-- A chore more. -/
theorem add_okO {F H : PHeap} {k k4 : Nat} {t : TS} {x : TV} {c : Ch} (h : TkB F H k t x) (hb : Bx F k4 tPT [.pointer (at0 k)]) (hl : t.chores.length ≤ 100000000) :
    Triple Tryz.prog 155 #[.agg #[vI c.k, .string c.nm, vI c.tg], .pointer (at0 k4)] H fun v H' => v = .tuple #[] ∧ ∃ ch', TkB F H' k { t with chores := t.chores ++ [c] } { x with ch := ch' } := by
  have hcl := (h.ch.rd (E := chE) (sz := 3) (by omega) chLen).len
  have hks : Sub (rest H (blkO x.ch)) H := rest_sub _ _
  have b4 : Bx (rest H (blkO x.ch)) k4 tPT [.pointer (at0 k)] := by
    have hn : k4 ∉ blkO x.ch := fun hq => by
      obtain ⟨z, hz, e⟩ := mem_blkO.1 hq
      have := h.ap.ch z hz
      unfold Bx at hb
      rw [e, hb] at this; cases this
    unfold Bx
    rw [rest_at hn]; exact hb.sub h.sub
  have bk : Bx (rest H (blkO x.ch)) k tTk (cellsT t x) := by
    have hn : k ∉ blkO x.ch := fun hq => by
      obtain ⟨z, hz, e⟩ := mem_blkO.1 hq
      exact h.ap.chk z hz e
    unfold Bx
    rw [rest_at hn]; exact h.bx
  refine choNamed2.vc c.k c.nm c.tg (at0 k4) H _ ⟨rest H (blkO x.ch), hks, at0 k, b4.reads, at0 k, b4.reads, obP k, obP k, _, _, _, bk.fld (i := 40) rfl, fun k11 hk11 => ⟨hks.trans (Sub.upd _ hk11), ?_⟩⟩
  refine append_one tCh (E := chE) (x := c) hk11 chLen h.ch rfl (chOne _) (by simp [maxLen]; omega) (by omega) ?_
  intro oa' c' H13 how hf hfr _
  have s13 : Sub (rest H (blkO x.ch)) H13 := rest_to fun q o hq ho => hf q o ho fun z hz e => hq (mem_blkO.2 ⟨z, hz, e.symm⟩)
  have b13 : Bx H13 k tTk (cellsT t x) := hf.bx h.bx h.ap.chk
  refine ⟨oa', _, c', rfl, s13, obP k, obP k, _, b13.put (i := 40) (x := .slice oa' (x.ch.n + 1) c') (by show 40 < 42; decide), rfl, ⟨oa', x.ch.n + 1, c'⟩, ?_⟩
  have nek := hfr.ne h.bx h.ap.chk
  have keep : ∀ {oa : Option Addr} {ty : TypeId} {sz n c : Nat} {xs : List Value} {o : Obj}, (∀ z, oa = some z → z.block ≠ k) → (∀ z y, oa = some z → x.ch.a = some y → z.block ≠ y.block) → Owns H ty sz oa n c xs → Owns (H13.upd k o) ty sz oa n c xs := fun h1 h2 ho =>
    ho.mono fun z o hz hb => by rw [Vx.upd_ne _ _ (h1 z hz)]; exact hf _ _ hb fun y hy => h2 z y hz hy
  have fr : ∀ {oa : Option Addr} {ty : TypeId} {sz n c : Nat} {xs : List Value}, Owns H ty sz oa n c xs → (∀ z y, oa = some z → x.ch.a = some y → z.block ≠ y.block) → ∀ z y, oa = some z → oa' = some y → z.block ≠ y.block := fun ho h2 z y hz hy e => by
    subst hz
    obtain ⟨o, hb⟩ := ho.blk
    exact hfr.ne hb (fun w hw e' => h2 z w rfl hw e'.symm) y hy e.symm
  refine ⟨(hf.sub h.sub h.ap.ch).wr h.off, h.off, Bx.new _ _ _ _, h.pn, keep h.ap.psk h.ap.pc h.ps, h.nm, h.nmc, keep h.ap.suk h.ap.uc h.su, how.mono fun z o hz hb => by rw [Vx.upd_ne _ _ (nek z hz)]; exact hb,
    ⟨h.ap.ps, h.ap.su, hfr.off h.sub h.ap.ch, h.ap.psk, h.ap.suk, nek, h.ap.pu, fr h.ps h.ap.pc, fr h.su h.ap.uc⟩, h.an, h.aw⟩
/-- What becomes of the suspects. -/
def susF (t : TS) : List Int := if t.A.fixed then t.sus.filter (fun i => decide (i ∈ t.A.acks)) else t.sus
theorem filter_snocI (q : Int → Bool) {l : List Int} {i : Nat} {z : Int} (h : l[i]? = some z) : (l.take (i + 1)).filter q = (l.take i).filter q ++ if q z then [z] else [] := by
  rw [List.take_add_one, h, List.filter_append]
  congr 1
  cases hq : q z <;> simp [hq]
theorem named_okO {H0 F H : PHeap} {k : Nat} {t : TS} {x : TV} (hF : Sub H0 F) (h : TkB F H k t x) (hp : t.p.ok = true) (h0 : t.at_ ≠ 0) (hn : t.names ≠ []) (hc : Core t) (hr : Res F t x) (hb : t.chores.length ≤ 90000000) :
    Triple Tryz.prog 134 #[.pointer (at0 k)] H (OutT H0 k t.named) := by
  have hnl := h.nm.len
  have hpos : 0 < x.nm.n := by rw [← hnl]; exact List.length_pos_iff.2 hn
  have hhl := hr.sl.h.len
  have hhs := hr.sml.holders
  have hal := hr.sl.a.len
  have has := hr.sml.acks
  have hsl := hr.sl.s.len
  have hss := hr.sml.said
  obtain ⟨nm, hnm, hnr⟩ := h.nm.ex (i := (0 : Int)) (by omega) (by omega)
  have hhd : t.names.headD noS = nm := by
    have hnm' : t.names[0]? = some nm := hnm
    cases hl : t.names with
    | nil => exact absurd hl hn
    | cons a r => rw [hl] at hnm'; cases hnm'; rfl
  refine choNamed.vc (at0 k) H _ fun k2 hk2 => ?_
  have s2 := Sub.upd (.cells #[.pointer (at0 k)] tPT (0, 0)) hk2
  have hk := h.mono s2
  obtain ⟨hB, hsF⟩ := hk.big
  have b2H : Bx (H.upd k2 (.cells #[.pointer (at0 k)] tPT (0, 0))) k2 tPT [.pointer (at0 k)] := Bx.new _ _ _ _
  have hk2k : k2 ≠ k := fun e => by
    have := h.bx
    unfold Bx at this
    rw [← e, hk2] at this; cases this
  have b2F : Bx (rest (H.upd k2 (.cells #[.pointer (at0 k)] tPT (0, 0))) (ksO k x)) k2 tPT [.pointer (at0 k)] := by
    have hno := not_ksO h (oa := at0 k2) (fun a ha => by cases ha; exact hk2) _ rfl
    unfold Bx
    rw [rest_at hno]; exact b2H
  have hF1 := hF.trans hsF
  have hrF := hr.mono hsF
  have hnrF := hnr.mono hsF
  generalize hHk : H.upd k2 (.cells #[.pointer (at0 k)] tPT (0, 0)) = Hk at *
  generalize rest Hk (ksO k x) = F1 at *
  refine ⟨at0 k, b2H.reads, obP k, obP k, _, _, _, hB.bx.fld (i := 38) rfl, h.nm.ob (by omega) (by omega), nm, hnrF.mono hB.sub, Hk, Sub.refl _, at0 k, b2H.reads, at0 k, b2H.reads, obP k, obP k, _, _, _, hB.bx.fld (i := 38) rfl, ⟨by omega, by omega, by have := h.nmc; omega⟩, obP k, obP k, _, hB.bx.put (i := 38) (x := .slice (slA x.nm.a 1 x.nm.c 1) (x.nm.n - 1) (x.nm.c - 1)) (by show 38 < 42; decide), ?_⟩
  -- the names that are left
  have hB1 : TkB F1 (Hk.upd k (.cells (cellsT { t with names := t.names.tail } { x with nm := ⟨slA x.nm.a 1 x.nm.c 1, x.nm.n - 1, x.nm.c - 1⟩ }).toArray tTk (0, 0))) k { t with names := t.names.tail } { x with nm := ⟨slA x.nm.a 1 x.nm.c 1, x.nm.n - 1, x.nm.c - 1⟩ } := by
    have ne : ∀ {oa : Option Addr} {ty : TypeId} {sz n c : Nat} {xs : List Value} {o : Obj}, (∀ z, oa = some z → z.block ≠ k) → Owns Hk ty sz oa n c xs → Owns (Hk.upd k o) ty sz oa n c xs := fun hn ho => ho.mono fun z o hz hb => by rw [Vx.upd_ne _ _ (hn z hz)]; exact hb
    exact ⟨hB.sub.wr hB.off, hB.off, Bx.new _ _ _ _, hB.pn, ne hB.ap.psk hB.ps, slA1 hB.nm hpos hB.nmc, by have := hB.nmc; show x.nm.n - 1 ≤ x.nm.c - 1; omega, ne hB.ap.suk hB.su, ne hB.ap.chk hB.ch, hB.ap.same rfl rfl rfl fun _ _ h => h, hB.an, hB.aw⟩
  have b2' : Bx (Hk.upd k (.cells (cellsT { t with names := t.names.tail } { x with nm := ⟨slA x.nm.a 1 x.nm.c 1, x.nm.n - 1, x.nm.c - 1⟩ }).toArray tTk (0, 0))) k2 tPT [.pointer (at0 k)] := b2H.upd_ne _ hk2k
  have eH : Hk.upd k (.cells ((cellsT t x).set 38 (.slice (slA x.nm.a 1 x.nm.c 1) (x.nm.n - 1) (x.nm.c - 1))).toArray tTk (0, 0)) = Hk.upd k (.cells (cellsT { t with names := t.names.tail } { x with nm := ⟨slA x.nm.a 1 x.nm.c 1, x.nm.n - 1, x.nm.c - 1⟩ }).toArray tTk (0, 0)) := rfl
  rw [eH]
  clear eH
  generalize Hk.upd k (.cells (cellsT { t with names := t.names.tail } { x with nm := ⟨slA x.nm.a 1 x.nm.c 1, x.nm.n - 1, x.nm.c - 1⟩ }).toArray tTk (0, 0)) = H14 at hB1 b2' ⊢
  generalize hnmp : ({ a := slA x.nm.a 1 x.nm.c 1, n := x.nm.n - 1, c := x.nm.c - 1 } : Pl) = nmp at hB1
  have es : x.s = t.A := hr.s
  refine ⟨at0 k, b2'.reads, obP k, obP k, obK k 26, x.s.fixed, hB1.bx.fld (i := 27) rfl, ?_⟩
  apply both (C := fun H' => ∃ su', TkB F1 H' k { t with names := t.names.tail, sus := susF t } { x with nm := nmp, su := su' })
  · intro key
    refine ⟨fun e => ?_, fun e => ?_⟩
    · have ef : t.A.fixed = true := by rw [← es]; exact e
      -- all but the suspects' own block
      have hks : Sub (rest H14 (blkO x.su)) H14 := rest_sub _ _
      have bkS : Bx (rest H14 (blkO x.su)) k tTk (cellsT { t with names := t.names.tail } { x with nm := nmp }) := by
        have hn : k ∉ blkO x.su := fun hq => by
          obtain ⟨z, hz, e⟩ := mem_blkO.1 hq
          exact hB1.ap.suk z hz e
        unfold Bx
        rw [rest_at hn]; exact hB1.bx
      have hFS : Sub F1 (rest H14 (blkO x.su)) := rest_le hB1.sub fun q hq => by
        obtain ⟨z, hz, rfl⟩ := mem_blkO.1 hq
        exact hB1.ap.su z hz
      have hSoff : Off (rest H14 (blkO x.su)) x.su.a := fun z hz => rest_none (mem_blkO.2 ⟨z, hz, rfl⟩)
      have hsul := (hB1.su.rd (E := iE) (sz := 1) (by omega) Rnd.iLen).len
      have hs256 : t.sus.length ≤ 256 := asc_ids hp hc.sua hc.sui
      refine ⟨rest H14 (blkO x.su), hks, at0 k, (b2F.sub hFS).reads, at0 k, (b2F.sub hFS).reads, obP k, obP k, _, _, _, bkS.fld (i := 39) rfl, (delI_own (p := fun i => !decide (i ∈ t.A.acks)) hks hSoff hB1.su (by show x.su.n ≤ 100000; rw [← hsul]; show t.sus.length ≤ 100000; omega) fun G y Q hs hQ => CallY.fn (by kernel_rfl) (choNamed1.vc y (at0 k2) _ _ ⟨at0 k, ((b2F.sub hFS).sub hs).reads, obP k, obP k, obK k 26, _, _, _, (bkS.sub hs).fld (i := 33) rfl, (Rnd.contains_ok (x := y) (hrF.sl.a.mono (hFS.trans hs)) (by omega)).mono ?_⟩)).mono ?_⟩
      · rintro _ H8 ⟨rfl, hH⟩
        rw [hH]
        exact ⟨_, rfl, hQ _ (Sub.refl _)⟩
      rintro _ H24 ⟨m, rfl, o24, s24⟩
      have efl : (t.sus.filter fun i => !(!decide (i ∈ t.A.acks))) = susF t := by
        unfold susF
        rw [if_pos ef]
        exact List.filter_congr fun i _ => by simp
      have o24' : OwnL H24 3 iE 1 x.su.a m x.su.c (susF t) := by rw [← efl]; exact o24
      have b24 := bkS.sub s24
      refine ⟨x.su.a, m, x.su.c, rfl, s24, obP k, obP k, _, b24.put (i := 39) (x := .slice x.su.a m x.su.c) (by show 39 < 42; decide), ?_⟩
      have up : ∀ {oa : Option Addr} {ty : TypeId} {sz n c : Nat} {xs : List Value} {o : Obj}, (∀ z, oa = some z → z.block ≠ k) → (∀ z y, oa = some z → x.su.a = some y → z.block ≠ y.block) → Owns H14 ty sz oa n c xs → Owns (H24.upd k o) ty sz oa n c xs := fun h1 h2 ho =>
        ho.mono fun z o hz hb => by
          rw [Vx.upd_ne _ _ (h1 z hz)]
          refine s24.le _ _ ?_
          rw [rest_at fun hq => by
            obtain ⟨y, hy, e⟩ := mem_blkO.1 hq
            exact h2 z y hz hy e.symm]
          exact hb
      have hfin : TkB F1 (H24.upd k (.cells (cellsT { t with names := t.names.tail, sus := susF t } { x with nm := nmp, su := ⟨x.su.a, m, x.su.c⟩ }).toArray tTk (0, 0))) k { t with names := t.names.tail, sus := susF t } { x with nm := nmp, su := ⟨x.su.a, m, x.su.c⟩ } := ⟨(hFS.trans s24).wr hB1.off, hB1.off, Bx.new _ _ _ _, hB1.pn, up hB1.ap.psk hB1.ap.pu hB1.ps, hB1.nm, hB1.nmc, o24'.mono fun z o hz hb => by rw [Vx.upd_ne _ _ (hB1.ap.suk z hz)]; exact hb, up hB1.ap.chk (fun z y hz hy => fun e => hB1.ap.uc y z hy hz e.symm) hB1.ch, ⟨hB1.ap.ps, hB1.ap.su, hB1.ap.ch, hB1.ap.psk, hB1.ap.suk, hB1.ap.chk, hB1.ap.pu, hB1.ap.pc, hB1.ap.uc⟩, hB1.an, hB1.aw⟩
      have eH : H24.upd k (.cells ((cellsT { t with names := t.names.tail } { x with nm := nmp }).set 39 (.slice x.su.a m x.su.c)).toArray tTk (0, 0)) = H24.upd k (.cells (cellsT { t with names := t.names.tail, sus := susF t } { x with nm := nmp, su := ⟨x.su.a, m, x.su.c⟩ }).toArray tTk (0, 0)) := rfl
      rw [eH]
      generalize H24.upd k (.cells (cellsT { t with names := t.names.tail, sus := susF t } { x with nm := nmp, su := ⟨x.su.a, m, x.su.c⟩ }).toArray tTk (0, 0)) = H28 at hfin ⊢
      exact key H28 ⟨_, hfin⟩
    · refine key H14 ⟨x.su, ?_⟩
      have ef : t.A.fixed = false := by rw [← es]; exact e
      have efl : susF t = t.sus := by unfold susF; rw [if_neg (by rw [ef]; decide)]
      rw [efl]
      exact hB1
  · rintro H28 ⟨su', hB2⟩
    have b28 := b2F.sub hB2.sub
    have hcB : Core t.behind := by
      refine ⟨hc.win, hc.wl, hc.gin, hc.asc, hc.psa, hc.psi, ?_, ?_, hc.aw, hc.al, hc.ast⟩
      · show Asc (if t.A.fixed then t.sus.filter (fun i => decide (i ∈ t.A.acks)) else t.sus)
        split
        · exact asc_filter hc.sua _
        · exact hc.sua
      · show ∀ i ∈ (if t.A.fixed then t.sus.filter (fun i => decide (i ∈ t.A.acks)) else t.sus), i ∈ ids t.p
        split
        · exact fun i hi => hc.sui i (List.mem_filter.1 hi).1
        · exact hc.sui
    have fin : ∀ {H' : PHeap} {ch' : Pl} {cs : List Ch}, cs = t.chores ++ newC t.p nm t.A → TkB F1 H' k { t with names := t.names.tail, sus := susF t, chores := cs } { x with nm := nmp, su := su', ch := ch' } → Triple Tryz.prog 91 #[.pointer (at0 k)] H' fun v H' => ∃ a n c, v = .slice a n c ∧ OutT H0 k t.named (.slice a n c) H' := fun {H'} {ch'} {cs} hcs hB' => by
      have eT : ({ t with names := t.names.tail, sus := susF t, chores := cs } : TS) = t.behind := by unfold TS.behind; rw [hhd, hcs]; rfl
      rw [eT] at hB'
      exact (name_okO hF1 hB' hp h0 hcB).mono fun v H' ho => out_slice ho fun _ h => h
    have el : x.s.value = t.A.value := by rw [es]
    refine ⟨at0 k, b28.reads, obP k, obP k, obK k 26, ⟨by simp [at0, fldA]⟩, x.s.value.pr, hB2.bx.fld (i := 28) rfl, fun e => ?_, fun e => ?_⟩
    · have ep : t.A.value.pr = true := by rw [← el]; exact e
      refine ⟨H28, Sub.refl _, at0 k, b28.reads, obP k, obP k, _, _, _, _, _, _, planR hB2, at0 k, b28.reads, obP k, obP k, obK k 26, _, _, _, hB2.bx.fld (i := 32) rfl, (targets_ok hp (hrF.sl.h.mono hB2.sub) (by omega)).mono ?_⟩
      rintro _ H44 ⟨b45, n46, c47, rfl, o45, s44, f45⟩
      have hB3 := hB2.mono s44
      have r45 := o45.rd (E := iE) (sz := 1) (by omega) Rnd.iLen
      have hl45 := r45.len
      have ht256 := targ_len t.p t.A.holders
      have hi256 := ids_len' hp
      obtain ⟨hB4, hsF4⟩ := hB3.big
      have r45F := r45.rest (ks := ksO k { x with nm := nmp, su := su' }) fun a ha hq => not_ksO hB2 f45 a ha hq
      have b2F4 := b2F.sub hsF4
      have hrF4 := hrF.mono hsF4
      let Q1 : Int → Bool := fun i => (helpL t.p t.A.holders i).isSome
      have hnew : newC t.p nm t.A = ((targL t.p t.A.holders).filter Q1).map fun i => (⟨2, nm, i⟩ : Ch) := by unfold newC; rw [if_pos ep]
      refine ⟨b45, n46, c47, rfl, fun s H' => match s with | [.int _ i] => 0 ≤ i ∧ i ≤ n46 ∧ ∃ ch', TkB (rest H44 (ksO k { x with nm := nmp, su := su' })) H' k { t with names := t.names.tail, sus := susF t, chores := t.chores ++ (((targL t.p t.A.holders).take i.toNat).filter Q1).map fun i => (⟨2, nm, i⟩ : Ch) } { x with nm := nmp, su := su', ch := ch' } | _ => False, fun s _ => match s with | [.int _ i] => (n46 - i).toNat | _ => 0, ⟨by omega, by omega, x.ch, by simpa using hB4⟩, ?_⟩
      rintro i H51 ⟨i0, i1, ch', hBi⟩
      obtain ⟨i, rfl⟩ : ∃ j : Nat, i = j := ⟨i.toNat, by omega⟩
      rw [Int.toNat_natCast] at hBi
      have b51 := b2F4.sub hBi.sub
      refine ⟨fun hi => ?_, fun hi => ?_⟩
      · have hi' : i < n46 := by simpa using hi
        have r51 := r45F.mono hBi.sub
        obtain ⟨z, hz, hzr⟩ := r51.ex (i := (i : Int)) (by omega) (by omega)
        rw [Int.toNat_natCast] at hz
        have hsn := filter_snocI Q1 hz
        have hcl : ((((targL t.p t.A.holders).take i).filter Q1).map fun i => (⟨2, nm, i⟩ : Ch)).length ≤ 256 := by
          rw [List.length_map]
          have h1 := List.length_filter_le Q1 ((targL t.p t.A.holders).take i)
          rw [List.length_take] at h1
          omega
        have w1 : IntKind.i64.wrap ((i : Int) + 1) = (i : Int) + 1 := Rnd.wrapS (by omega) (by omega)
        have e1 : ((i : Int) + 1).toNat = i + 1 := by omega
        have less : Less ((n46 - ((i : Int) + 1)).toNat) ((n46 - (i : Int)).toNat) := ⟨by omega⟩
        rw [w1]
        refine ⟨r51.ob (by omega) (by omega), z, hzr, H51, Sub.refl _, at0 k, b51.reads, obP k, obP k, _, _, _, _, _, _, planR hBi, at0 k, b51.reads, obP k, obP k, obK k 26, _, _, _, hBi.bx.fld (i := 32) rfl, (helpers_ok (i := z) hp (hrF4.sl.h.mono hBi.sub) (by omega)).mono ?_⟩
        rintro _ H66 ⟨b67, m68, ok, rfl, hok, _, s66, _, _⟩
        refine ⟨b67, m68, m68, ok, rfl, fun e2 => (add_okO (c := ⟨2, nm, z⟩) (hBi.mono s66) b2F4 (by show (t.chores ++ _).length ≤ _; rw [List.length_append]; omega)).mono ?_, fun e2 => ⟨⟨by omega, by omega, ch', ?_⟩, less⟩⟩
        · rintro _ H72 ⟨rfl, ch2, hB72⟩
          refine ⟨rfl, ⟨by omega, by omega, ch2, ?_⟩, less⟩
          have hQ : Q1 z = true := by show (helpL t.p t.A.holders z).isSome = true; rw [← hok]; exact e2
          rw [e1, hsn, hQ, if_pos rfl, List.map_append, ← List.append_assoc]
          exact hB72
        · have hQ : Q1 z = false := by show (helpL t.p t.A.holders z).isSome = false; rw [← hok]; exact e2
          rw [e1, hsn, hQ, if_neg (by decide), List.append_nil]
          exact hBi.mono s66
      · have hi' : ¬ i < n46 := by simpa using hi
        rw [List.take_of_length_le (by omega)] at hBi
        refine ⟨at0 k, b51.reads, ?_⟩
        have hcs : (t.chores ++ ((targL t.p t.A.holders).filter Q1).map fun i => (⟨2, nm, i⟩ : Ch)) = t.chores ++ newC t.p nm t.A := by rw [hnew]
        have eT : ({ t with names := t.names.tail, sus := susF t, chores := t.chores ++ ((targL t.p t.A.holders).filter Q1).map fun i => (⟨2, nm, i⟩ : Ch) } : TS) = t.behind := by unfold TS.behind; rw [hhd, hcs]; rfl
        rw [eT] at hBi
        exact (name_okO (hF1.trans hsF4) hBi hp h0 hcB).mono fun v H' ho => out_slice ho fun _ h => h
    · have ep : t.A.value.pr = false := by rw [← el]; exact e
      refine ⟨H28, Sub.refl _, at0 k, b28.reads, obP k, obP k, _, _, _, _, _, _, planR hB2, at0 k, b28.reads, obP k, obP k, obK k 26, _, _, _, hB2.bx.fld (i := 34) rfl, (sGone_ok (p := t.p) (hrF.sl.s.mono hB2.sub) (by omega)).mono ?_⟩
      rintro _ H92 ⟨rfl, s92⟩
      have hB3 := hB2.mono s92
      refine ⟨_, rfl, fun e2 => (add_okO (c := ⟨3, nm, 0⟩) hB3 b2F (by show t.chores.length ≤ _; omega)).mono ?_, fun e2 => ⟨at0 k, (b28.sub s92).reads, ?_⟩⟩
      · rintro _ H95 ⟨rfl, ch2, hB95⟩
        refine ⟨rfl, at0 k, (b2F.sub hB95.sub).reads, fin ?_ hB95⟩
        unfold newC
        rw [if_neg (by rw [ep]; decide), if_pos e2]
      · refine fin (ch' := x.ch) (cs := t.chores) ?_ hB3
        unfold newC
        rw [if_neg (by rw [ep]; decide), if_neg (by rw [e2]; decide), List.append_nil]
end Go.Cho
