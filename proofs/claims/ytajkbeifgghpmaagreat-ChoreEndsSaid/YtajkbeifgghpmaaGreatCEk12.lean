/- The contracts of a chore's methods: Start, Take, Tick, Done. · A chore ends: in plain words. · What is to be shown of each function, in its normal form.  · What the laws of a chore share: what is too much, and the document's example. · The law ChoreEnds: the walk. -/
import Derived.Test.YtajkbeifgghpmaaGreatProg
import Derived.Test.YtajkbeifgghpmaaGreatCEk11
set_option linter.unusedVariables false
set_option maxRecDepth 100000
namespace Go.Cho
open Go.Vx Go.Vc Go.Proofs Go.Pln Go.Stl Go.Agr
open Go.Hp (rest_ok restL restL_spec restL_len Asc asc_ext has_ok refRest_ok)
open Go.Rnd (takesG insG froms againG OkM AscG RdS Both)
open Go.Txt (sE)
open Go.Page (limL namesL susL susStep cntL sumN names_ noS stateL PgT)
theorem odd_at {b : Nat} {t : TS} (hi : Iv b t) (hg : t.agrees = false) (h0 : t.at_ ≠ 0) : t.at_ = 1 ∨ t.at_ = 3 ∨ t.at_ = 5 ∨ t.at_ = 7 := by
  have h1 := hi.rng
  unfold TS.agrees at hg
  simp at hg
  omega
theorem TkI.h0 {H0 F A B H : PHeap} {k : Nat} {t : TS} {x : TV} (h : TkI H0 F A B H k t x) : Sub H0 (rest H (ksO k x)) := h.s0.trans (h.all.big).2
/-- A round is judged. -/
theorem next_okO {H0 F A B H : PHeap} {k : Nat} {t : TS} {x : TV} {b : Nat} (h : TkI H0 F A B H k t x) (hi : Iv b t) (hb : b ≤ 80000) (hn : t.p.n ≤ 100) (hg : t.agrees = false) (h0 : t.at_ ≠ 0) {Q : Value → PHeap → Prop}
    (hQ : ∀ v H', OutT H0 k t.next v H' → (t.told = true → t.next.1.at_ = 0 ∨ OutT (rest H (ksO k x)) k t.next v H') → (t.told = false → v = .slice none 0 0 ∧ TkI H0 F A B H' k t x) → Q v H') :
    CallY Tryz.prog (jT t.at_) #[.pointer (at0 k)] H Q := by
  have hans : ∀ {v : Value} {H' : PHeap}, t.next = t.answered → (t.told = allG t.wait t.G) → OutT H0 k t.answered v H' → (allG t.wait t.G = false → v = .slice none 0 0 ∧ TkI H0 F A B H' k t x) → Q v H' := fun {v} {H'} e1 e2 h1 h2 => by
    refine hQ v H' (by rw [e1]; exact h1) (fun e => .inl ?_) fun e => h2 (by rw [← e2]; exact e)
    rw [e1]
    have ea : allG t.wait t.G = true := by rw [← e2]; exact e
    unfold TS.answered
    rw [if_pos ea]; rfl
  rcases odd_at hi hg h0 with e | e
  · have en : t.next = t.listed := by unfold TS.next; rw [if_pos e]
    have et : t.told = (enoughB t || allG t.wait t.G) := by unfold TS.told; rw [e]; simp
    have ed : t.listed = if enoughB t then (if (limL (listL t.G)).1 then TS.name { t.turned with names := t.turned.pn, sus := t.turned.ps } else t.turned.round 1 (mNames t.turned.after) (ids t.p) (ids t.p)) else t.answered := rfl
    rw [show jT t.at_ = jT 1 by rw [e]]
    refine CallY.fn (by kernel_rfl) ((listed_okO h hi hb hn e).mono ?_)
    rintro v H' ⟨h1, h2⟩
    cases he : enoughB t with
    | true =>
      have := h1 he
      rw [← en] at this
      exact hQ v H' (this.weak h.h0) (fun _ => .inr this) fun e' => by rw [et, he] at e'; simp at e'
    | false =>
      obtain ⟨g1, g2⟩ := h2 he
      exact hans (by rw [en, ed, if_neg (by rw [he]; decide)]) (by rw [et, he, Bool.false_or]) g1 g2
  · have e1 : ¬ t.at_ = 1 := by omega
    have en : t.next = t.answered := by unfold TS.next; rw [if_neg e1, if_neg (by omega), if_neg (by omega), if_neg (by omega)]
    have et : t.told = allG t.wait t.G := by
      unfold TS.told
      rw [show (t.at_ == 1) = false by simpa using e1]; rfl
    have ej : jT t.at_ = .func (Fn.func 62) #[] #[] := by
      unfold jT; rw [if_neg e1, if_neg (by omega), if_neg (by omega), if_neg (by omega)]
    rw [ej]
    refine CallY.fn (by kernel_rfl) ((answered_okO h hg h0).mono ?_)
    rintro v H' ⟨h1, h2⟩
    exact hans en et h1 h2
theorem out_self {H0 F A B H : PHeap} {k : Nat} {t : TS} {x : TV} (h : TkI H0 F A B H k t x) : OutT H0 k (t, []) (.slice none 0 0) H := ⟨SaidL.nil _, h.tks⟩
theorem agG {F A : PHeap} {ka : Nat} {s : Agr.St} (h : AgS F A ka s) : s.G.length ≤ 256 := by
  obtain ⟨kr, h⟩ := h
  exact h.inv.len
theorem take_okO {H0 F A B H : PHeap} {k : Nat} {t : TS} {x : TV} {b : Nat} {m : Msg} (h : TkI H0 F A B H k t x) (hi : Iv b t) (hb : b + 100 ≤ 80000) (hn : t.p.n ≤ 100) (hm : OkC H0 m) :
    Triple Tryz.prog 14 #[.pointer (at0 k), Rnd.vM m] H (OutT H0 k (t.take m)) := by
  have hdef : t.take m = if t.at_ = 0 then (t, []) else if t.agrees then t.goes (t.A.take m) else if t.refuses m then (t.over, []) else if t.takes m && takesG t.wait t.G m then (if allG t.wait (insG t.G m) then (t.got m).next else (t.got m, [])) else (t, []) := rfl
  have hbx := h.bx
  have hmF := hm.mono h.s0
  have hml : (names_ m).l.length ≤ 100 := by rw [hm.ok.names.len]; exact hm.nm
  -- what is called
  have ag : t.agrees = true → t.at_ ≠ 0 → ∃ ka, x.a = at0 ka ∧ Triple Tryz.prog 41 #[.pointer (at0 ka), Rnd.vM m] H fun v H' => ∃ a n c, v = .slice a n c ∧ Triple Tryz.prog 32 #[.pointer (at0 k), .slice a n c] H' fun v H' => ∃ a n c, v = .slice a n c ∧ OutT H0 k (t.goes (t.A.take m)) (.slice a n c) H' := fun hg h0 => by
    obtain ⟨ka, hxa, hA⟩ := h.a.ag hg
    obtain ⟨p1, p2, p3⟩ := hi.ap hg
    refine ⟨ka, hxa, (Triple.part h.parts (take_ok2 hA hmF.ok) fun v A' hd => ?_).mono ?_⟩
    · obtain ⟨⟨_, _, _, _, _, kr, hA'⟩, _⟩ := hd
      exact hA'.sub
    · rintro v H' ⟨A', hd, hP⟩
      obtain ⟨a, n, c, rfl, hT⟩ := goes_okO h.s0 hP h.b (h.a.j h0) hg hxa hi (by omega) hd (p3.take (by rw [p1]; exact hi.pok h0) (agG hA) m) (by rw [take_p, p1])
      exact ⟨a, n, c, rfl, hT.mono fun v H' ho => out_slice ho fun _ h => h⟩
  have rd : t.agrees = false → t.at_ ≠ 0 → ∃ kr, x.a = none ∧ x.am.1 = kT t.at_ ∧ x.r = at0 kr ∧ Triple Tryz.prog 44 #[.pointer (at0 kr), Rnd.vM m] H fun v H' => v = .bool (takesG t.wait t.G m) ∧ Bx H' k tTk (cellsT t x) ∧ ∃ A', (takesG t.wait t.G m = true → TkI H0 F A' B H' k (t.got m) x) ∧ (takesG t.wait t.G m = false → TkI H0 F A' B H' k t x) ∧ (takesG t.wait t.G m = true → Triple Tryz.prog 45 #[.pointer (at0 kr)] H' fun v H2 => v = .bool (allG t.wait (insG t.G m)) ∧ TkI H0 F A' B H2 k (t.got m) x) := fun hg h0 => by
    obtain ⟨g1, g2, kr, asks, got, hr, hR, hB, hs, hok, hGok⟩ := h.a.rd hg h0
    refine ⟨kr, g1, g2, hr, (Triple.part h.parts (Rnd.take_ok (m := m) hR) fun v A' hd => hd.2.sub).mono ?_⟩
    rintro _ H' ⟨A', ⟨rfl, hR'⟩, hP⟩
    have hte := takes_eq (wait := t.wait) hB m
    rw [hte] at hR' ⊢
    have hT1 : takesG t.wait t.G m = true → TkI H0 F A' B H' k (t.got m) x := fun e => by
      rw [e, if_pos rfl] at hR'
      refine ⟨h.s0, hP, ⟨h.b.sub, h.b.off, h.b.bx, h.b.pn, h.b.ps, h.b.nm, h.b.nmc, h.b.su, h.b.ch, h.b.ap, h.b.an, h.b.aw⟩, ⟨h.a.j, fun e' => ?_, fun _ _ => ⟨g1, g2, kr, asks, _, hr, hR', hB.put (takes_new e).2, hs, hok, fun y hy => ?_⟩, h.a.no⟩⟩
      · have : t.agrees = true := e'
        rw [hg] at this; cases this
      · rcases Rnd.mem_ins.1 hy with hy | hy
        · exact hGok y hy
        · rw [hy]; exact hmF
    refine ⟨rfl, h.b.bx.sub hP.b, A', hT1, fun e => ?_, fun e => ?_⟩
    · rw [e, if_neg (by decide)] at hR'
      exact ⟨h.s0, hP, h.b, ⟨h.a.j, (fun e' => by rw [hg] at e'; cases e'), fun _ _ => ⟨g1, g2, kr, asks, got, hr, hR', hB, hs, hok, hGok⟩, h.a.no⟩⟩
    · have hI := hT1 e
      rw [e, if_pos rfl] at hR'
      exact rnd_all (t := t.got m) hI hR' (hB.put (takes_new e).2)
  have tko := fun {H' : PHeap} (hh : TkB F H' k t x) (h1 : x.am.1 = kT t.at_) (h2 : t.at_ = 1 ∨ t.at_ = 3 ∨ t.at_ = 5 ∨ t.at_ = 7) => takes_okO (m := m) hh h1 h2
  have rfo := fun {H' : PHeap} (hh : TkB F H' k t x) (h1 : x.am.1 = kT t.at_) (h2 : t.at_ = 1 ∨ t.at_ = 3 ∨ t.at_ = 5 ∨ t.at_ = 7) => refuses_okO (m := m) hh h1 h2 hi.core.aw
  have hgi : takesG t.wait t.G m = true → Iv (b + 100) (t.got m) := fun e => got_iv hi e hml
  have hgf : (t.got m).agrees = t.agrees ∧ (t.got m).at_ = t.at_ ∧ (t.got m).p = t.p := ⟨rfl, rfl, rfl⟩
  generalize t.got m = tg at *
  generalize t.take m = out at *
  generalize t.takes m = tk at *
  generalize t.refuses m = rf at *
  generalize takesG t.wait t.G m = tkg at *
  generalize t.goes (t.A.take m) = gs at *
  generalize insG t.G m = G' at *
  obtain ⟨y1, y2, y3, y4, y5, y6, y7, y8, y9, y10, ⟨ya, yb, yc, yl⟩, ⟨za, zb, zc, zl⟩, ⟨wa, wb, wc, wl⟩⟩ := m
  refine choTake.vc (at0 k) y1 y2 y3 y4 y5 y6 y7 y8 y9 y10 ya yb yc za zb zc wa wb wc H _ ⟨fun _ => ⟨obP k, obP k, _, hbx.fld (i := 41) rfl, fun e => ?_, fun e => ⟨obP k, obP k, x.a, hbx.fld (i := 10) rfl, fun e2 => ?_, fun e2 => ?_⟩⟩, fun e => by simp [at0] at e⟩
  · have h0 : t.at_ = 0 := by simpa using e
    rw [hdef, if_pos h0]
    exact out_self h
  all_goals have h0 : t.at_ ≠ 0 := by simpa using e
  all_goals rw [if_neg h0] at hdef
  · have hg : t.agrees = true := by
      cases hg : t.agrees with
      | true => rfl
      | false =>
        obtain ⟨kr, g1, _⟩ := rd hg h0
        rw [g1] at e2; simp at e2
    rw [if_pos hg] at hdef
    obtain ⟨ka, hxa, hT⟩ := ag hg h0
    rw [hdef]
    refine ⟨H, Sub.refl _, obP k, obP k, x.a, hbx.fld (i := 10) rfl, ?_⟩
    rw [hxa]
    exact hT
  · have hg : t.agrees = false := by
      cases hg : t.agrees with
      | false => rfl
      | true =>
        obtain ⟨ka, hxa, _⟩ := ag hg h0
        rw [hxa] at e2; simp [at0] at e2
    rw [if_neg (by rw [hg]; decide)] at hdef
    obtain ⟨kr, g1, g2, g3, hRT⟩ := rd hg h0
    have hod := odd_at hi hg h0
    refine (rfo h.all g2 hod).mono ?_
    rintro _ H36 ⟨rfl, hH36⟩
    rw [hH36]
    refine ⟨_, rfl, fun e3 => ?_, fun e3 => ⟨only H k, only_sub hbx hbx, (tko h.all g2 hod).mono ?_⟩⟩
    · rw [if_pos e3] at hdef
      rw [hdef]
      exact end_out h.s0 h.all fun _ h => h
    rw [if_neg (by rw [e3]; decide)] at hdef
    rintro _ H45 ⟨rfl, hH45⟩
    rw [hH45]
    refine ⟨_, rfl, only_sub hbx hbx, fun e4 => ⟨obP k, obP k, x.r, (only_bx hbx).fld (i := 11) rfl, ?_⟩, fun e4 => ?_⟩
    · have e4' : tk = true := by simpa using e4
      rw [e4', Bool.true_and] at hdef
      rw [g3]
      refine hRT.mono ?_
      rintro _ H49 ⟨rfl, b49, A', k1, k2, k3⟩
      refine ⟨_, rfl, only_sub hbx b49, fun e5 => ⟨obP k, obP k, x.r, (only_bx hbx).fld (i := 11) rfl, ?_⟩, fun e5 => ?_⟩
      · have e5' : tkg = true := by simpa using e5
        rw [if_pos e5'] at hdef
        rw [g3]
        refine (k3 e5').mono ?_
        rintro _ H53 ⟨rfl, hI⟩
        refine ⟨_, rfl, fun e6 => ?_, fun e6 => ⟨obP k, obP k, x.j, hI.bx.fld (i := 25) rfl, ?_⟩⟩
        · have e6' : allG t.wait G' = false := by simpa using e6
          rw [if_neg (by rw [e6']; decide)] at hdef
          rw [hdef]
          exact out_self hI
        · have e6' : allG t.wait G' = true := by simpa using e6
          rw [if_pos e6'] at hdef
          rw [hdef, h.a.j h0, ← hgf.2.1]
          refine next_okO hI (hgi e5') (by omega) (by rw [hgf.2.2]; exact hn) (by rw [hgf.1]; exact hg) (by rw [hgf.2.1]; exact h0) ?_
          exact fun v H' ho _ _ => out_slice ho fun _ h => h
      · have e5' : tkg = false := by simpa using e5
        rw [if_neg (by rw [e5']; decide)] at hdef
        rw [hdef]
        exact out_self (k2 e5')
    · have e4' : tk = false := by simpa using e4
      rw [e4', Bool.false_and, if_neg (by decide)] at hdef
      rw [hdef]
      exact out_self h
theorem take_nilO (H : PHeap) (m : Msg) : Triple Tryz.prog 14 #[.pointer none, Rnd.vM m] H fun v H' => v = .slice none 0 0 ∧ H' = H := by
  obtain ⟨y1, y2, y3, y4, y5, y6, y7, y8, y9, y10, ⟨ya, yb, yc, yl⟩, ⟨za, zb, zc, zl⟩, ⟨wa, wb, wc, wl⟩⟩ := m
  exact choTake.vc none y1 y2 y3 y4 y5 y6 y7 y8 y9 y10 ya yb yc za zb zc wa wb wc H _ ⟨fun e => (by simp at e), fun _ => ⟨rfl, rfl⟩⟩
theorem tick_nilO (H : PHeap) : Triple Tryz.prog 12 #[.pointer none] H fun v H' => v = .slice none 0 0 ∧ H' = H :=
  choTick.vc none H _ ⟨fun e => (by simp at e), fun _ => ⟨rfl, rfl⟩⟩
theorem strip_again (asks G : List Msg) : (againG asks G).map strip = againG (asks.map strip) G := by
  unfold againG
  rw [List.filter_map]
  rfl
theorem tick_okO {H0 F A B H : PHeap} {k : Nat} {t : TS} {x : TV} {b : Nat} (h : TkI H0 F A B H k t x) (hi : Iv b t) (hb : b ≤ 80000) (hn : t.p.n ≤ 100) :
    Triple Tryz.prog 12 #[.pointer (at0 k)] H (OutT H0 k t.tick) := by
  have hdef : t.tick = if t.at_ = 0 then (t, []) else if t.agrees then t.goes t.A.tick else if t.told then t.next else t.late := rfl
  have hbx := h.bx
  refine choTick.vc (at0 k) H _ ⟨fun _ => ⟨obP k, obP k, _, hbx.fld (i := 41) rfl, fun e => ?_, fun e => ⟨obP k, obP k, x.a, hbx.fld (i := 10) rfl, fun e2 => ?_, fun e2 => ?_⟩⟩, fun e => by simp [at0] at e⟩
  · have h0 : t.at_ = 0 := by simpa using e
    rw [hdef, if_pos h0]
    exact out_self h
  all_goals have h0 : t.at_ ≠ 0 := by simpa using e
  all_goals rw [if_neg h0] at hdef
  · have hg : t.agrees = true := by
      cases hg : t.agrees with
      | true => rfl
      | false =>
        obtain ⟨g1, _⟩ := h.a.rd hg h0
        rw [g1] at e2; simp at e2
    rw [if_pos hg] at hdef
    obtain ⟨ka, hxa, hA⟩ := h.a.ag hg
    obtain ⟨p1, p2, p3⟩ := hi.ap hg
    rw [hdef]
    refine ⟨obP k, obP k, x.a, hbx.fld (i := 10) rfl, ?_⟩
    rw [hxa]
    refine (Triple.part h.parts (tick_ok2 hA) fun v A' hd => ?_).mono ?_
    · obtain ⟨⟨_, _, _, _, _, kr, hA'⟩, _⟩ := hd
      exact hA'.sub
    · rintro v H' ⟨A', hd, hP⟩
      obtain ⟨a, n, c, rfl, hT⟩ := goes_okO h.s0 hP h.b (h.a.j h0) hg hxa hi hb hd (p3.tick (by rw [p1]; exact hi.pok h0) (agG hA)) (by rw [tick_p, p1])
      exact ⟨a, n, c, rfl, hT.mono fun v H' ho => out_slice ho fun _ h => h⟩
  · have hg : t.agrees = false := by
      cases hg : t.agrees with
      | false => rfl
      | true =>
        obtain ⟨ka, hxa, _⟩ := h.a.ag hg
        rw [hxa] at e2; simp [at0] at e2
    rw [if_neg (by rw [hg]; decide)] at hdef
    obtain ⟨g1, g2, kr, asks, got, hr, hR, hB, hs, hok, hGok⟩ := h.a.rd hg h0
    refine ⟨obP k, obP k, x.r, hbx.fld (i := 11) rfl, obP k, obP k, x.j, hbx.fld (i := 25) rfl, ?_⟩
    rw [h.a.j h0]
    refine next_okO h hi hb hn hg h0 ?_
    intro v H18 hO hto hno
    obtain ⟨j, hj, hjs⟩ := info_ok (P := Tryz.prog) (t := tRd) (by kernel_rfl)
    cases htd : t.told with
    | true =>
      rw [htd, if_pos rfl] at hdef
      rw [hdef]
      obtain ⟨hS, F', A', B', x', hs', hP', hB', hA'⟩ := hO
      have hb18 := hB'.bx.sub hP'.b
      obtain ⟨a, n, c, l, rfl, q⟩ := hS
      have hfin : OutT H0 k t.next (.slice a n c) H18 := ⟨⟨a, n, c, l, rfl, q⟩, F', A', B', x', hs', hP', hB', hA'⟩
      refine ⟨a, n, c, rfl, obP k, obP k, _, hb18.fld (i := 41) rfl, fun e3 => ?_, fun _ => hfin⟩
      have h0' : t.next.1.at_ ≠ 0 := by simpa using e3
      have hbig := (hto htd).resolve_left h0'
      obtain ⟨hS2, F2, A2, B2, x2, hs2, hP2, hB2, hA2⟩ := hbig
      have hb2 := hB2.bx.sub hP2.b
      refine ⟨obP k, obP k, x2.a, hb2.fld (i := 10) rfl, fun e4 => ?_, fun _ => hfin⟩
      have hg2 : t.next.1.agrees = false := by
        cases hg2 : t.next.1.agrees with
        | false => rfl
        | true =>
          obtain ⟨ka, hxa, _⟩ := hA2.ag hg2
          rw [hxa] at e4; simp [at0] at e4
      obtain ⟨_, _, kr2, asks2, got2, hr2, hR2, _⟩ := hA2.rd hg2 h0'
      obtain ⟨l1, hl1⟩ := RdS_bx hR
      obtain ⟨l2, hl2⟩ := RdS_bx hR2
      have hkA : A kr ≠ none := by
        unfold Bx at hl1
        rw [hl1]; simp
      have hkr : kr ∉ ksO k x := fun hq => by
        have own : ∀ {oa : Option Addr} {ty : TypeId} {sz n c : Nat} {xs : List Value}, Owns B ty sz oa n c xs → Off F oa → ∀ z, oa = some z → z.block ≠ kr := fun ho hf z hz e => by
          subst hz
          obtain ⟨o, hbb⟩ := ho.blk
          have := (h.parts.apart _ (hf z rfl)).resolve_right (by rw [hbb]; simp)
          rw [e] at this
          exact hkA this
        rcases mem_ksO.1 hq with e | ⟨z, hz, e⟩ | ⟨z, hz, e⟩ | ⟨z, hz, e⟩
        · have := (h.parts.apart k h.b.off).resolve_right h.b.bk
          rw [← e] at this
          exact hkA this
        · exact own h.b.ps h.b.ap.ps z hz e
        · exact own h.b.su h.b.ap.su z hz e
        · exact own h.b.ch h.b.ap.ch z hz e
      have hold : Bx (rest H (ksO k x)) kr tRd l1 := by
        unfold Bx
        rw [rest_at hkr]; exact hl1.sub h.parts.a
      have hne : kr2 ≠ kr := fun e => by
        have h1 := hold.sub hs2
        unfold Bx at h1
        rw [← e, hR2.off] at h1; cases h1
      refine ⟨obP k, obP k, x2.r, hb2.fld (i := 11) rfl, ?_⟩
      rw [hr2, hr]
      refine ptr_neq (tp := 66) (te := tRd) (by kernel_rfl) hj hjs (hl2.sub hP2.a) (hold.sub (hs2.trans (hP2.fa.trans hP2.a))) ⟨_, rfl, fun _ => hfin, fun e5 => ?_⟩
      rw [decide_eq_false hne] at e5; cases e5
    | false =>
      rw [htd, if_neg (by decide)] at hdef
      rw [hdef]
      obtain ⟨rfl, h18⟩ := hno htd
      have hb18 := h18.bx
      obtain ⟨l1, hl1⟩ := RdS_bx hR
      have hl18 := hl1.sub h18.parts.a
      refine ⟨none, 0, 0, rfl, obP k, obP k, _, hb18.fld (i := 41) rfl, fun _ => ⟨obP k, obP k, x.a, hb18.fld (i := 10) rfl, fun _ => ⟨obP k, obP k, x.r, hb18.fld (i := 11) rfl, ?_⟩, fun e4 => ?_⟩, fun e3 => ?_⟩
      · rw [hr]
        refine ptr_neq (tp := 66) (te := tRd) (by kernel_rfl) hj hjs hl18 hl18 ⟨_, rfl, fun e5 => ?_, fun _ => ⟨obP k, obP k, x.r, hb18.fld (i := 11) rfl, ?_⟩⟩
        · simp at e5
        rw [hr]
        have hld : t.late = if t.tries = 0 then (t.over, []) else ({ t with tries := IntKind.i64.wrap (t.tries - 1) }, againG t.asks t.G) := rfl
        refine (Triple.part h18.parts (Rnd.tick_ok hR) fun v A' hd => ?_).mono ?_
        · rcases hd with ⟨_, _, hR', _⟩ | ⟨_, hR', _⟩ <;> exact hR'.sub
        rintro _ H29 ⟨A', hd, hP⟩
        rcases hd with ⟨ht, rfl, hR', _⟩ | ⟨ht, hR', b2, n2, c2, rfl, hrd⟩
        · rw [hld, if_pos ht]
          refine ⟨none, 0, 0, true, rfl, fun _ => ?_, fun e => by cases e⟩
          exact end_out h.s0 (h.b.mono hP.b) fun _ h => h
        · rw [hld, if_neg ht]
          refine ⟨b2, n2, c2, false, rfl, (fun e => by cases e), fun _ => ⟨⟨b2, n2, c2, _, rfl, hrd.mono hP.a, fun m hm => ?_, ?_⟩, F, A', B, x, h.s0, hP, ⟨h.b.sub, h.b.off, h.b.bx, h.b.pn, h.b.ps, h.b.nm, h.b.nmc, h.b.su, h.b.ch, h.b.ap, h.b.an, h.b.aw⟩, ⟨h.a.j, fun e' => ?_, fun _ _ => ⟨g1, g2, kr, asks, got, hr, hR', hB, hs, hok, hGok⟩, h.a.no⟩⟩⟩
          · exact (hok m (List.mem_filter.1 hm).1).mono (hP.fa.trans hP.a)
          · rw [again_eq hB, strip_again, hs]
          · have : t.agrees = true := e'
            rw [hg] at this; cases this
      · rw [g1] at e4; cases e4
      · have : decide (t.at_ = 0) = true := by simpa using e3
        exact absurd (by simpa using this) h0
open Classical in
/-- A text is a name. -/
noncomputable def nameB (s : ByteArray) : Bool := decide (Lab.NameP s)
theorem nameB_of {s : ByteArray} {b : Bool} (h : b = true ↔ Lab.NameP s) : nameB s = b := by
  unfold nameB
  cases b with
  | true => exact @decide_eq_true _ (Classical.propDecidable _) (h.1 rfl)
  | false => exact @decide_eq_false _ (Classical.propDecidable _) fun hn => by have := h.2 hn; cases this
def am0 : Msg := (0, 0, 0, 0, ⟨#[]⟩, 0, 0, 0, 0, 0, no3)
def tv0 (p : Plan) (b : Int) : TV := ⟨none, none, am0, .nilFunc, init0 p b ⟨#[]⟩ false false 0, x0, pl0, pl0, pl0, pl0, pl0⟩
theorem start_okO {H : PHeap} {p : Plan} {b : Int} {c : Ch} :
    Triple Tryz.prog 7 #[p.v, vI b, .agg #[vI c.k, .string c.nm, vI c.tg]] H fun v H' => ∃ k w, v = .tuple #[.pointer (at0 k), w] ∧ OutT H k (start p b c (nameB c.nm)) w H' ∧ H k = none ∧ (c.k = 1 → p.ok = true → OutF H k (start p b c (nameB c.nm)) w H') := by
  refine choStart.vc p.n p.t p.l p.w p.s p.r b c.k c.nm c.tg H _ fun k hk => ?_
  let t8 : TS := { start0 p b c with at_ := 8 }
  have s1 := Sub.upd (.cells (cellsT t8 (tv0 p b)).toArray tTk (0, 0)) hk
  have hB : TkB H (H.upd k (.cells (cellsT t8 (tv0 p b)).toArray tTk (0, 0))) k t8 (tv0 p b) :=
    ⟨s1, hk, Bx.new _ _ _ _, RdL.nil _ _ _, Owns.nil _ _ 1, RdL.nil _ _ _, Nat.le_refl 0, Owns.nil _ _ 1, Owns.nil _ _ 3, ⟨Off.none _, Off.none _, Off.none _, (fun z e => by cases e), (fun z e => by cases e), (fun z e => by cases e), (fun z y e => by cases e), (fun z y e => by cases e), (fun z y e => by cases e)⟩, rfl, RdL.nil _ _ _⟩
  have eH : H.upd k (.cells (cellsT t8 (tv0 p b)).toArray tTk (0, 0)) = H.upd k (.cells #[vI p.n, vI p.t, vI p.l, vI p.w, vI p.s, vI p.r, vI b, vI c.k, .string c.nm, vI c.tg, .pointer none, .pointer none, vI 0, vI 0, vI 0, vI 0, .string ⟨#[]⟩, vI 0, vI 0, vI 0, vI 0, vI 0, .slice none 0 0, .slice none 0 0, .slice none 0 0, .nilFunc, .bool false, .bool false, .bool false, vI 0, vI 0, vI 0, .slice none 0 0, .slice none 0 0, .slice none 0 0, .slice none 0 0, .string ⟨#[]⟩, .slice none 0 0, .slice none 0 0, .slice none 0 0, .slice none 0 0, .bool false] tTk (0, 0)) := rfl
  rw [← eH]
  generalize H.upd k (.cells (cellsT t8 (tv0 p b)).toArray tTk (0, 0)) = H1 at hB ⊢
  have fin : ∀ {r : TS × List Msg} {v : Value} {H' : PHeap}, OutT H k r v H' → start p b c (nameB c.nm) = r → (c.k = 1 → p.ok = true → OutF H k r v H') → ∃ a n d, v = .slice a n d ∧ ∃ k' w, Value.tuple #[.pointer (at0 k), .slice a n d] = .tuple #[.pointer (at0 k'), w] ∧ OutT H k' (start p b c (nameB c.nm)) w H' ∧ H k' = none ∧ (c.k = 1 → p.ok = true → OutF H k' (start p b c (nameB c.nm)) w H') := fun {r} {v} {H'} ho e hf => by
    obtain ⟨⟨a, n, d, l, rfl, q⟩, hT⟩ := ho
    exact ⟨a, n, d, rfl, k, _, rfl, by rw [e]; exact ⟨⟨a, n, d, l, rfl, q⟩, hT⟩, hk, by rw [e]; exact hf⟩
  have hend : start p b c (nameB c.nm) = (start0 p b c, []) → Triple Tryz.prog 21 #[.pointer (at0 k)] H1 fun v H' => ∃ a n d, v = .slice a n d ∧ ∃ k' w, Value.tuple #[.pointer (at0 k), .slice a n d] = .tuple #[.pointer (at0 k'), w] ∧ OutT H k' (start p b c (nameB c.nm)) w H' ∧ H k' = none ∧ (c.k = 1 → p.ok = true → OutF H k' (start p b c (nameB c.nm)) w H') := fun e => by
    refine (end_okO (Sub.refl _) hB).mono ?_
    rintro _ H' ⟨rfl, hS, _⟩
    exact fin (r := (start0 p b c, [])) ⟨SaidL.nil _, hS⟩ e fun _ _ => ⟨H, Sub.refl _, SaidL.nil _, hS⟩
  have hdef : start p b c (nameB c.nm) = if !p.ok || (c.k != 1 && !nameB c.nm) then (start0 p b c, []) else if c.k = 1 then (start0 p b c).round 1 (mNames noS) (ids p) (ids p) else if c.k = 2 then (start0 p b c).agree c.nm true 4 else if c.k = 3 then (start0 p b c).agree c.nm true 6 else (start0 p b c, []) := rfl
  have body : p.ok = true → (!p.ok || (c.k != 1 && !nameB c.nm)) = false → ((c.k == 1) = true → Triple Tryz.prog 22 #[.pointer (at0 k)] H1 fun v H' => ∃ a n d, v = .slice a n d ∧ ∃ k' w, Value.tuple #[.pointer (at0 k), .slice a n d] = .tuple #[.pointer (at0 k'), w] ∧ OutT H k' (start p b c (nameB c.nm)) w H' ∧ H k' = none ∧ (c.k = 1 → p.ok = true → OutF H k' (start p b c (nameB c.nm)) w H')) ∧
      ((c.k == 1) = false → ((c.k == 2) = true → Triple Tryz.prog 23 #[.pointer (at0 k), .string c.nm, .bool true, jT 4] H1 fun v H' => ∃ a n d, v = .slice a n d ∧ ∃ k' w, Value.tuple #[.pointer (at0 k), .slice a n d] = .tuple #[.pointer (at0 k'), w] ∧ OutT H k' (start p b c (nameB c.nm)) w H' ∧ H k' = none ∧ (c.k = 1 → p.ok = true → OutF H k' (start p b c (nameB c.nm)) w H')) ∧
        ((c.k == 2) = false → ((c.k == 3) = true → Triple Tryz.prog 23 #[.pointer (at0 k), .string c.nm, .bool true, jT 6] H1 fun v H' => ∃ a n d, v = .slice a n d ∧ ∃ k' w, Value.tuple #[.pointer (at0 k), .slice a n d] = .tuple #[.pointer (at0 k'), w] ∧ OutT H k' (start p b c (nameB c.nm)) w H' ∧ H k' = none ∧ (c.k = 1 → p.ok = true → OutF H k' (start p b c (nameB c.nm)) w H')) ∧
          ((c.k == 3) = false → Triple Tryz.prog 21 #[.pointer (at0 k)] H1 fun v H' => ∃ a n d, v = .slice a n d ∧ ∃ k' w, Value.tuple #[.pointer (at0 k), .slice a n d] = .tuple #[.pointer (at0 k'), w] ∧ OutT H k' (start p b c (nameB c.nm)) w H' ∧ H k' = none ∧ (c.k = 1 → p.ok = true → OutF H k' (start p b c (nameB c.nm)) w H')))) := fun hp hno => by
    rw [if_neg (by rw [hno]; decide)] at hdef
    refine ⟨fun e1 => ?_, fun e1 => ⟨fun e2 => ?_, fun e2 => ⟨fun e3 => ?_, fun e3 => ?_⟩⟩⟩
    · have e1' : c.k = 1 := by simpa using e1
      rw [if_pos e1'] at hdef
      exact (list_okF (t := t8) (Sub.refl _) hB hp rfl ⟨rfl, rfl, rfl⟩).mono fun v H' ho => fin ho.out hdef fun _ _ => ho
    all_goals have e1' : ¬ c.k = 1 := by simpa using e1
    all_goals rw [if_neg e1'] at hdef
    · have e2' : c.k = 2 := by simpa using e2
      rw [if_pos e2'] at hdef
      exact (agree_okO (t := t8) (at' := 4) (Sub.refl _) hB hp (.inr trivial) (.inr (.inl rfl)) rfl).mono fun v H' ho => fin ho hdef fun e _ => absurd e e1'
    all_goals have e2' : ¬ c.k = 2 := by simpa using e2
    all_goals rw [if_neg e2'] at hdef
    · have e3' : c.k = 3 := by simpa using e3
      rw [if_pos e3'] at hdef
      exact (agree_okO (t := t8) (at' := 6) (Sub.refl _) hB hp (.inr trivial) (.inr (.inr rfl)) rfl).mono fun v H' ho => fin ho hdef fun e _ => absurd e e1'
    · have e3' : ¬ c.k = 3 := by simpa using e3
      rw [if_neg e3'] at hdef
      exact hend hdef
  refine (right_ok p).use ⟨_, rfl, fun e => ⟨fun e1 => (Lab.right_ok c.nm).mono ?_, fun e1 => ?_⟩, fun e => ?_⟩
  · have hp : p.ok = true := by simpa using e
    rintro _ H16 ⟨nb, rfl, hH, hnb⟩
    rw [hH]
    have hnB := nameB_of hnb
    refine ⟨nb, rfl, fun e2 => ?_, fun e2 => ?_⟩
    · have e2' : nb = false := by simpa using e2
      refine hend ?_
      rw [hdef, if_pos (by rw [hnB, e2', e1]; simp)]
    · have e2' : nb = true := by simpa using e2
      exact body hp (by rw [hp, hnB, e2']; simp)
  · have hp : p.ok = true := by simpa using e
    have e1' : (c.k != 1) = false := by simpa using e1
    exact body hp (by rw [hp, e1']; rfl)
  · have hp : p.ok = false := by simpa using e
    refine hend ?_
    rw [hdef, if_pos (by rw [hp]; rfl)]
theorem cloneC_ok {H : PHeap} {oa : Option Addr} {n c : Nat} {l : List Ch} (hl : RdL H chE 3 oa n l) (hn : n ≤ 100000000) :
    Triple Tryz.prog 30 #[.slice oa n c] H fun v H' => ∃ b k, v = .slice b n k ∧ RdL H' chE 3 b n l ∧ Sub H H' := by
  refine cloneC.vc oa n c H _ ⟨fun h => ?_, fun h k4 hk4 => ?_⟩
  · have ho : oa = none := by simpa using h
    have hn0 := hl.pos ho
    subst ho hn0
    exact ⟨none, 0, rfl, hl, Sub.refl _⟩
  · have s4 := Sub.upd (.cells #[] 34 (0, 0)) hk4
    refine append_rd tCh (E := chE) (l := []) chLen (Owns.empty H k4 _ 3) (hl.mono s4) chOne (by simp [maxLen]; omega) (by omega) ?_
    intro oa' c' H' how hf hfr
    have e : 0 + n = n := by omega
    rw [e] at how
    refine ⟨oa', 0 + n, c', rfl, oa', c', by rw [e], how.rd (E := chE) (sz := 3) (by omega) chLen, hf.sub s4 (off_at0 hk4)⟩
theorem done_okO {H0 H : PHeap} {k : Nat} {t : TS} (h : TkS H0 H k t) (hl : t.chores.length ≤ 90000000) :
    Triple Tryz.prog 9 #[.pointer (at0 k)] H fun v H' => ∃ b n c, v = .tuple #[.slice b n c, .bool (decide (t.at_ = 0))] ∧ RdL H' chE 3 b n (if t.at_ = 0 then t.chores else []) ∧ Sub H H' := by
  obtain ⟨F, A, B, x, h1, h2, h3, h4⟩ := h
  have hb := h3.bx.sub h2.b
  have hch := (h3.mono h2.b).ch.rd (E := chE) (sz := 3) (by omega) chLen
  have hcl := hch.len
  refine choDone.vc (at0 k) H _ ⟨fun _ => ⟨obP k, obP k, _, hb.fld (i := 41) rfl, fun e => ?_, fun e => ⟨obP k, obP k, _, _, _, hb.fld (i := 40) rfl, (cloneC_ok hch (by omega)).mono ?_⟩⟩, fun e => by simp [at0] at e⟩
  · have h0 : ¬ t.at_ = 0 := by simpa using e
    rw [decide_eq_false h0, if_neg h0]
    exact ⟨none, 0, 0, rfl, RdL.nil _ _ _, Sub.refl _⟩
  · have h0 : t.at_ = 0 := by simpa using e
    rintro _ H' ⟨b, q, rfl, hr, hs⟩
    rw [decide_eq_true h0, if_pos h0]
    exact ⟨b, _, q, rfl, b, _, q, rfl, hr, hs⟩
theorem done_nilO (H : PHeap) : Triple Tryz.prog 9 #[.pointer none] H fun v H' => v = .tuple #[.slice none 0 0, .bool false] ∧ H' = H :=
  choDone.vc none H _ ⟨fun e => (by simp at e), fun _ => ⟨rfl, rfl⟩⟩
end Go.Cho
namespace Go.Cho
open Go.Vx Go.Vc Go.Proofs Go.Pln Go.Stl Go.Agr
open Go.Hp (rest_ok restL restL_spec restL_len Asc asc_ext has_ok refRest_ok)
open Go.Rnd (takesG insG froms againG OkM AscG)
open Go.Page (limL namesL susL susStep cntL sumN names_ noS stateL)
/-- What goes by: an agreement's rounds, or a round. -/
structure En (t : TS) : Prop where
  ag : t.agrees = true → Went 0 t.A
  rd : t.agrees = false → t.at_ ≠ 0 → 0 ≤ t.tries ∧ t.tries ≤ t.p.r
theorem Went.le {a b : Int} {s : Agr.St} (h : Went a s) (hb : b ≤ a) : Went b s := h.imp id fun ⟨h1, h2⟩ => ⟨by omega, h2⟩
theorem r_ok {p : Plan} (hp : p.ok = true) : 1 ≤ p.r ∧ p.r ≤ 64 ∧ maxI p.r 0 = p.r := by
  have pok := Plan.ok_iff.1 hp
  have := pok.r1
  have := pok.r2
  refine ⟨by omega, by omega, ?_⟩
  unfold maxI
  rw [if_neg (by omega)]
theorem agree_went (t : TS) (nm : ByteArray) (force : Bool) (at' : Int) (hp : t.p.ok = true) : Went 0 (t.agree nm force at').1.A := by
  obtain ⟨r1, r2, r3⟩ := r_ok hp
  refine .inr ⟨?_, ?_, ?_, ?_, ?_⟩
  · show 0 + maxI t.p.r 0 ≤ maxI t.p.r 0
    omega
  all_goals
    first
    | (show 0 ≤ maxI t.p.r 0; omega)
    | (show maxI t.p.r 0 ≤ 100000; omega)
/-- It is over within so many ticks, if nothing comes any more. -/
def EndsIn (n : Int) (t : TS) : Prop := t.at_ = 0 ∨ (t.agrees = false ∧ (t.at_ = 1 → enoughB t = false) ∧ (0 ≤ t.tries ∧ t.tries ≤ t.p.r) ∧ t.tries + 1 ≤ n) ∨
  (t.at_ = 1 ∧ (0 ≤ t.tries ∧ t.tries ≤ t.p.r) ∧ 1 + 2 * (t.p.r + 1) * (t.pn.length + sumN t.G : Nat) + (t.p.r + 1) ≤ n) ∨
  (t.at_ = 2 ∧ ∃ u : Int, 0 ≤ u ∧ Went u t.A ∧ 2 * (t.p.r + 1) - u + 2 * (t.p.r + 1) * ((t.names.length : Int) - 1) + (t.p.r + 1) ≤ n) ∨
  ((t.at_ = 4 ∨ t.at_ = 6) ∧ ∃ u : Int, 0 ≤ u ∧ Went u t.A ∧ 2 * (t.p.r + 1) - u + (t.p.r + 1) ≤ n)
theorem ends_over (n : Int) (t : TS) : EndsIn n t.over := .inl rfl
theorem ends_round {n : Int} {t : TS} {at' : Int} {m : Msg} {to wait : List Int} (hp : t.p.ok = true) (ha : at' = 1 ∨ at' = 3 ∨ at' = 5 ∨ at' = 7) (hn : t.p.r + 1 ≤ n) : EndsIn n (t.round at' m to wait).1 := by
  obtain ⟨r1, r2, r3⟩ := r_ok hp
  refine .inr (.inl ⟨?_, fun _ => ?_, ?_, ?_⟩)
  · show ((at' == 2 || at' == 4 || at' == 6) : Bool) = false
    rcases ha with rfl | rfl | rfl | rfl <;> rfl
  · show (t.p.ok && decide (((cntL ([] : List Msg) : Nat) : Int) ≥ t.p.n - t.p.w + 1)) = false
    have pok := Plan.ok_iff.1 hp
    have := pok.wn
    rw [decide_eq_false (by show ¬ ((0 : Nat) : Int) ≥ t.p.n - t.p.w + 1; omega), Bool.and_false]
  · show 0 ≤ maxI t.p.r 0 ∧ maxI t.p.r 0 ≤ t.p.r
    omega
  · show maxI t.p.r 0 + 1 ≤ n
    omega
theorem mul_nat {w : Int} (hw : 0 ≤ w) {a b : Int} (h : a ≤ b) : 2 * w * a ≤ 2 * w * b := Int.mul_le_mul_of_nonneg_left h (by omega)
theorem ends_name {n : Int} {t : TS} (hp : t.p.ok = true) (hn : 2 * (t.p.r + 1) * (t.names.length : Int) + (t.p.r + 1) ≤ n) : EndsIn n t.name.1 := by
  obtain ⟨r1, r2, r3⟩ := r_ok hp
  unfold TS.name
  split
  · rename_i nm r e
    refine .inr (.inr (.inr (.inl ⟨rfl, 0, Int.le_refl _, agree_went t nm _ 2 hp, ?_⟩)))
    show 2 * (t.p.r + 1) - 0 + 2 * (t.p.r + 1) * ((t.names.length : Int) - 1) + (t.p.r + 1) ≤ n
    have e2 : 2 * (t.p.r + 1) * (t.names.length : Int) = 2 * (t.p.r + 1) * ((t.names.length : Int) - 1) + 2 * (t.p.r + 1) := by
      have : (t.names.length : Int) = ((t.names.length : Int) - 1) + 1 := by omega
      conv => lhs; rw [this, Int.mul_add, Int.mul_one]
    omega
  · rename_i e
    rw [e] at hn
    have hn' : t.p.r + 1 ≤ n := by simp at hn; omega
    split
    · exact ends_over n t
    · exact ends_round hp (.inr (.inl rfl)) hn'
theorem ends_goes {n : Int} {t : TS} {b : Nat} {r : Agr.St × List Msg} {u : Int} (hi : Iv b t) (hp : t.p.ok = true) (ha : t.agrees = true) (hr : Went u r.1) (hu : 0 ≤ u) (hrp : r.1.p = t.p)
    (hn : (t.at_ = 2 ∧ 2 * (t.p.r + 1) - u + 2 * (t.p.r + 1) * ((t.names.length : Int) - 1) + (t.p.r + 1) ≤ n) ∨ ((t.at_ = 4 ∨ t.at_ = 6) ∧ 2 * (t.p.r + 1) - u + (t.p.r + 1) ≤ n))
    (hu2 : u ≤ 2 * (t.p.r + 1)) : EndsIn n (t.goes r).1 := by
  obtain ⟨r1, r2, r3⟩ := r_ok hp
  unfold TS.goes
  split
  · split
    · unfold TS.next
      rw [if_neg (show ¬ t.at_ = 1 by omega)]
      rcases hn with ⟨e, hn⟩ | ⟨e, hn⟩
      · rw [if_pos (show t.at_ = 2 from e)]
        have hne := hi.at2 e
        have hpos : 0 < t.names.length := List.length_pos_iff.2 hne
        refine ends_name (t := ({ t with A := r.1 } : TS).behind) hp ?_
        show 2 * (t.p.r + 1) * (t.names.tail.length : Int) + (t.p.r + 1) ≤ n
        rw [List.length_tail, show ((t.names.length - 1 : Nat) : Int) = (t.names.length : Int) - 1 by omega]
        omega
      · rw [if_neg (show ¬ t.at_ = 2 by omega)]
        rcases e with e | e
        · rw [if_pos (show t.at_ = 4 from e)]
          unfold TS.mend
          split
          · exact ends_round (t := { t with A := r.1 }) hp (.inr (.inr (.inl rfl))) (by show t.p.r + 1 ≤ n; omega)
          · exact ends_over n _
        · rw [if_neg (show ¬ t.at_ = 4 by omega), if_pos (show t.at_ = 6 from e)]
          unfold TS.purge
          split
          · exact ends_over n _
          · exact ends_round (t := { t with A := r.1 }) hp (.inr (.inr (.inr rfl))) (by show t.p.r + 1 ≤ n; omega)
    · exact ends_over n _
  · rcases hn with ⟨e, hn⟩ | ⟨e, hn⟩
    · exact .inr (.inr (.inr (.inl ⟨e, u, hu, hr, hn⟩)))
    · exact .inr (.inr (.inr (.inr ⟨e, u, hu, hr, hn⟩)))
theorem went_lt {u : Int} {s : Agr.St} (h : Went u s) (ho : s.over = false) : u ≤ 2 * maxI s.p.r 0 + 1 := by
  rcases h with h | ⟨h1, h2, h3, h4, h5⟩
  · rw [ho] at h; cases h
  · unfold Agr.St.bd at h1
    split at h1 <;> omega
theorem at_cases {b : Nat} {t : TS} (hi : Iv b t) (hg : t.agrees = false) : t.at_ = 0 ∨ t.at_ = 1 ∨ t.at_ = 3 ∨ t.at_ = 5 ∨ t.at_ = 7 := by
  have := hi.rng
  unfold TS.agrees at hg
  simp at hg
  omega
theorem ends_tick {n : Int} {t : TS} {b : Nat} (hi : Iv b t) (h : EndsIn n t) : EndsIn (n - 1) t.tick.1 := by
  unfold TS.tick
  split
  · rename_i h0; exact .inl h0
  rename_i h0
  have hp := hi.pok h0
  obtain ⟨r1, r2, r3⟩ := r_ok hp
  split
  · rename_i ha
    obtain ⟨p1, p2, p3⟩ := hi.ap ha
    have key : ∀ u, 0 ≤ u → Went u t.A → ((t.at_ = 2 ∧ 2 * (t.p.r + 1) - u + 2 * (t.p.r + 1) * ((t.names.length : Int) - 1) + (t.p.r + 1) ≤ n) ∨ ((t.at_ = 4 ∨ t.at_ = 6) ∧ 2 * (t.p.r + 1) - u + (t.p.r + 1) ≤ n)) → EndsIn (n - 1) (t.goes t.A.tick).1 := fun u h0 hw hn => by
      have hlt := went_lt hw p2
      rw [p1, r3] at hlt
      refine ends_goes (u := u + 1) hi hp ha (went_tick hw) (by omega) (by rw [tick_p, p1]) ?_ (by omega)
      rcases hn with ⟨e, hn⟩ | ⟨e, hn⟩
      · exact .inl ⟨e, by omega⟩
      · exact .inr ⟨e, by omega⟩
    have hat := agrees_at ha
    rcases h with h | ⟨hg, _⟩ | ⟨e, _⟩ | ⟨e, u, hu, hw, hn⟩ | ⟨e, u, hu, hw, hn⟩
    · exact absurd h h0
    · rw [ha] at hg; cases hg
    · omega
    · exact key u hu hw (.inl ⟨e, hn⟩)
    · exact key u hu hw (.inr ⟨e, hn⟩)
  · rename_i ha
    have ha' : t.agrees = false := by simpa using ha
    have hc := at_cases hi ha'
    have hnext : ¬ t.at_ = 1 → t.next = t.answered := fun e => by
      unfold TS.next
      rw [if_neg e, if_neg (by omega), if_neg (by omega), if_neg (by omega)]
    have hans : allG t.wait t.G = true → EndsIn (n - 1) t.answered.1 := fun e => by
      unfold TS.answered
      rw [if_pos e]
      exact ends_over _ t
    have late : (0 ≤ t.tries ∧ t.tries ≤ t.p.r) → t.tries + 1 ≤ n → (t.at_ = 1 → enoughB t = false) → EndsIn (n - 1) t.late.1 := fun h1 h2 h3 => by
      unfold TS.late
      split
      · exact ends_over _ t
      · rename_i ht
        have hw : IntKind.i64.wrap (t.tries - 1) = t.tries - 1 := wrap64 (by omega) (by omega)
        refine .inr (.inl ⟨ha', h3, ?_, ?_⟩)
        · show 0 ≤ IntKind.i64.wrap (t.tries - 1) ∧ IntKind.i64.wrap (t.tries - 1) ≤ t.p.r
          rw [hw]; omega
        · show IntKind.i64.wrap (t.tries - 1) + 1 ≤ n - 1
          rw [hw]; omega
    split
    · rename_i htd
      by_cases e1 : t.at_ = 1
      · have en : t.next = t.listed := by unfold TS.next; rw [if_pos e1]
        rw [en]
        unfold TS.listed
        split
        · rename_i hen
          rcases h with h | ⟨_, hg, _⟩ | ⟨e, _, hn⟩ | ⟨e, _⟩ | ⟨e, _⟩
          · exact absurd h h0
          · rw [hg e1] at hen; cases hen
          · have hl := Page.namesL_len (limL (listL t.G)) t.pn (listL t.G)
            have hs : sumN (listL t.G) ≤ sumN t.G := sumN_filter _ _
            have hle : ((namesL (limL (listL t.G)) t.pn (listL t.G)).length : Int) ≤ ((t.pn.length + sumN t.G : Nat) : Int) := by omega
            have hmul := mul_nat (w := t.p.r + 1) (by omega) hle
            have hnn : 0 ≤ 2 * (t.p.r + 1) * ((t.pn.length + sumN t.G : Nat) : Int) := Int.mul_nonneg (by omega) (by omega)
            split
            · refine ends_name (t := { t.turned with names := t.turned.pn, sus := t.turned.ps }) hp ?_
              show 2 * (t.p.r + 1) * ((namesL (limL (listL t.G)) t.pn (listL t.G)).length : Int) + (t.p.r + 1) ≤ n - 1
              omega
            · exact ends_round (t := t.turned) hp (.inl rfl) (by show t.p.r + 1 ≤ n - 1; omega)
          · omega
          · omega
        · rename_i hen
          have : t.told = allG t.wait t.G := by
            unfold TS.told
            rw [show enoughB t = false by simpa using hen]; simp
          exact hans (by rw [← this]; exact htd)
      · rw [hnext e1]
        refine hans ?_
        unfold TS.told at htd
        rw [show (t.at_ == 1) = false by simpa using e1] at htd
        simpa using htd
    · rename_i htd
      have hne : t.at_ = 1 → enoughB t = false := fun e => by
        unfold TS.told at htd
        rw [e] at htd
        cases he : enoughB t with
        | false => rfl
        | true => rw [he] at htd; simp at htd
      rcases h with h | ⟨_, hg, h1, h2⟩ | ⟨e, h1, hn⟩ | ⟨e, _⟩ | ⟨e, _⟩
      · exact absurd h h0
      · exact late h1 h2 hne
      · have := Int.mul_nonneg (a := 2 * (t.p.r + 1)) (b := ((t.pn.length + sumN t.G : Nat) : Int)) (by omega) (by omega)
        exact late h1 (by omega) hne
      · omega
      · omega
theorem ends_zero {t : TS} {b : Nat} (hi : Iv b t) {n : Int} (hn : n ≤ 0) (h : EndsIn n t) : t.at_ = 0 := by
  by_cases h0 : t.at_ = 0
  · exact h0
  have hp := hi.pok h0
  obtain ⟨r1, r2, r3⟩ := r_ok hp
  rcases h with h | ⟨_, _, h1, h2⟩ | ⟨e, _, h2⟩ | ⟨e, u, hu, hw, h2⟩ | ⟨e, u, hu, hw, h2⟩
  · exact h
  · omega
  · have := Int.mul_nonneg (a := 2 * (t.p.r + 1)) (b := ((t.pn.length + sumN t.G : Nat) : Int)) (by omega) (by omega)
    omega
  · have ha : t.agrees = true := by unfold TS.agrees; rw [e]; rfl
    obtain ⟨p1, p2, p3⟩ := hi.ap ha
    have hlt := went_lt hw p2
    rw [p1, r3] at hlt
    have hpos : 0 < t.names.length := List.length_pos_iff.2 (hi.at2 e)
    have := Int.mul_nonneg (a := 2 * (t.p.r + 1)) (b := (t.names.length : Int) - 1) (by omega) (by omega)
    omega
  · have ha : t.agrees = true := by unfold TS.agrees; rcases e with e | e <;> rw [e] <;> rfl
    obtain ⟨p1, p2, p3⟩ := hi.ap ha
    have hlt := went_lt hw p2
    rw [p1, r3] at hlt
    omega
theorem en_over (t : TS) : En t.over := ⟨(fun e => by cases e), fun _ e => absurd rfl e⟩
theorem en_agree {t : TS} {nm : ByteArray} {force : Bool} {at' : Int} (hp : t.p.ok = true) (ha : at' = 2 ∨ at' = 4 ∨ at' = 6) : En (t.agree nm force at').1 := ⟨fun _ => agree_went t nm force at' hp, fun e => by
  have e' : ((at' == 2 || at' == 4 || at' == 6) : Bool) = false := e
  rcases ha with rfl | rfl | rfl <;> cases e'⟩
theorem en_round {t : TS} {at' : Int} {m : Msg} {to wait : List Int} (hp : t.p.ok = true) (ha : at' = 1 ∨ at' = 3 ∨ at' = 5 ∨ at' = 7) : En (t.round at' m to wait).1 := by
  obtain ⟨r1, r2, r3⟩ := r_ok hp
  refine ⟨fun e => ?_, fun _ _ => ?_⟩
  · have e' : ((at' == 2 || at' == 4 || at' == 6) : Bool) = true := e
    rcases ha with rfl | rfl | rfl | rfl <;> cases e'
  · show 0 ≤ maxI t.p.r 0 ∧ maxI t.p.r 0 ≤ t.p.r
    omega
theorem en_name {t : TS} (hp : t.p.ok = true) : En t.name.1 := by
  unfold TS.name
  split
  · exact en_agree hp (.inl rfl)
  · split
    · exact en_over t
    · exact en_round hp (.inr (.inl rfl))
theorem en_answered {t : TS} (h : En t) : En t.answered.1 := by
  unfold TS.answered
  split
  · exact en_over t
  · exact h
theorem en_next {t : TS} (hp : t.p.ok = true) (h : t.agrees = false → En t) (h' : t.at_ = 1 ∨ t.agrees = true ∨ t.agrees = false) : En t.next.1 := by
  unfold TS.next
  split
  · rename_i e
    unfold TS.listed
    split
    · split
      · exact en_name (t := { t.turned with names := t.turned.pn, sus := t.turned.ps }) hp
      · exact en_round (t := t.turned) hp (.inl rfl)
    · exact en_answered (h (by unfold TS.agrees; rw [e]; rfl))
  · split
    · exact en_name (t := t.behind) hp
    · split
      · unfold TS.mend
        split
        · exact en_round hp (.inr (.inr (.inl rfl)))
        · exact en_over t
      · split
        · unfold TS.purge
          split
          · exact en_over t
          · exact en_round hp (.inr (.inr (.inr rfl)))
        · rename_i g1 g2 g3 g4
          refine en_answered (h ?_)
          unfold TS.agrees
          simp [g2, g3, g4]
theorem en_goes {t : TS} {r : Agr.St × List Msg} (hp : t.p.ok = true) (ha : t.agrees = true) (hr : Went 0 r.1) : En (t.goes r).1 := by
  unfold TS.goes
  split
  · split
    · exact en_next (t := { t with A := r.1 }) hp (fun e => by
        have : t.agrees = false := e
        rw [ha] at this; cases this) (.inr (.inl ha))
    · exact en_over _
  · exact ⟨fun _ => hr, fun e => by
      have : t.agrees = false := e
      rw [ha] at this; cases this⟩
theorem en_take {t : TS} {m : Msg} {b : Nat} (hi : Iv b t) (h : En t) : En (t.take m).1 := by
  unfold TS.take
  split
  · exact h
  rename_i h0
  have hp := hi.pok h0
  split
  · rename_i ha
    exact en_goes hp ha (went_take (h.ag ha) m)
  · rename_i ha
    have ha' : t.agrees = false := by simpa using ha
    split
    · exact en_over t
    · split
      · have hg : En (t.got m) := ⟨h.ag, h.rd⟩
        split
        · exact en_next (t := t.got m) hp (fun _ => hg) (.inr (.inr ha'))
        · exact hg
      · exact h
theorem en_tick {t : TS} {b : Nat} (hi : Iv b t) (h : En t) : En t.tick.1 := by
  unfold TS.tick
  split
  · exact h
  rename_i h0
  have hp := hi.pok h0
  obtain ⟨r1, r2, r3⟩ := r_ok hp
  split
  · rename_i ha
    exact en_goes hp ha (Went.le (went_tick (h.ag ha)) (by omega))
  · rename_i ha
    have ha' : t.agrees = false := by simpa using ha
    split
    · exact en_next hp (fun _ => h) (.inr (.inr ha'))
    · unfold TS.late
      split
      · exact en_over t
      · rename_i ht
        obtain ⟨q1, q2⟩ := h.rd ha' h0
        refine ⟨h.ag, fun _ _ => ?_⟩
        show 0 ≤ IntKind.i64.wrap (t.tries - 1) ∧ IntKind.i64.wrap (t.tries - 1) ≤ t.p.r
        rw [wrap64 (n := t.tries - 1) (by omega) (by omega)]
        omega
theorem en_start {p : Plan} {b : Int} {c : Ch} {o : Bool} : En (start p b c o).1 := by
  have h0 : En (start0 p b c) := ⟨(fun e => by cases e), fun _ e => absurd rfl e⟩
  unfold start
  split
  · exact h0
  · rename_i hn
    have hp : (start0 p b c).p.ok = true := by
      show p.ok = true
      cases h : p.ok with
      | true => rfl
      | false => rw [h] at hn; simp at hn
    split
    · exact en_round hp (.inl rfl)
    · split
      · exact en_agree hp (.inr (.inl rfl))
      · split
        · exact en_agree hp (.inr (.inr rfl))
        · exact h0
theorem en_ends {t : TS} {b : Nat} (hi : Iv b t) (h : En t) {n : Int} (hn : (2 * (b : Int) + 4) * (t.p.r + 1) ≤ n) : EndsIn n t := by
  by_cases h0 : t.at_ = 0
  · exact .inl h0
  have hp := hi.pok h0
  obtain ⟨r1, r2, r3⟩ := r_ok hp
  have e4 : (2 * (b : Int) + 4) * (t.p.r + 1) = 2 * (t.p.r + 1) * (b : Int) + 4 * (t.p.r + 1) := by
    rw [Int.add_mul, Int.mul_right_comm]
  rw [e4] at hn
  have hb0 := Int.mul_nonneg (a := 2 * (t.p.r + 1)) (b := (b : Int)) (by omega) (by omega)
  cases ha : t.agrees with
  | true =>
    have hw := h.ag ha
    rcases agrees_at ha with e | e
    · have hf := hi.few
      have hle : ((t.names.length : Int) - 1) ≤ (b : Int) := by omega
      have hm := mul_nat (w := t.p.r + 1) (by omega) hle
      exact .inr (.inr (.inr (.inl ⟨e, 0, Int.le_refl _, hw, by omega⟩)))
    · exact .inr (.inr (.inr (.inr ⟨e, 0, Int.le_refl _, hw, by omega⟩)))
  | false =>
    have hr := h.rd ha h0
    by_cases e : t.at_ = 1
    · obtain ⟨_, _, hle⟩ := hi.at1' e
      have hm := mul_nat (w := t.p.r + 1) (by omega) (show ((t.pn.length + sumN t.G : Nat) : Int) ≤ (b : Int) by omega)
      exact .inr (.inr (.inl ⟨e, hr, by omega⟩))
    · exact .inr (.inl ⟨ha, fun e' => absurd e' e, hr, by omega⟩)
end Go.Cho
namespace Go.Vc
open Go.Vx Go
def lawCEnds.cx : Cx := ⟨[], [(6, [9, 49], []), (14, [78], [])], [], []⟩
def lawCFar.cx : Cx := ⟨[], [], [], []⟩
def lawCAlive.cx : Cx := ⟨[], [(3, [15], [])], [], []⟩
theorem lawCEnds.vc (n1 : Int) (n2 : Int) (n3 : Int) (n4 : Int) (n5 : Int) (n6 : Int) (n7 : Int) (n8 : Int) (s9 : ByteArray) (n10 : Int) (a11 : Option Addr) (k12 : Nat) (k13 : Nat) (H : PHeap) (Q : Value → PHeap → Prop)
 (h : Triple Proofs.Tryz.prog 5
 #[Value.agg #[Value.int IntKind.i64 n1, Value.int IntKind.i64 n2, Value.int IntKind.i64 n3, Value.int IntKind.i64 n4, Value.int IntKind.i64 n5, Value.int IntKind.i64 n6],
 Value.agg #[Value.int IntKind.i64 n8, Value.string s9, Value.int IntKind.i64 n10], Value.slice a11 k12 k13]
 H fun v14 H15 =>
 ∃ b16,
 v14 = Value.bool b16 ∧
 (b16 = false →
 (decide (n7 < 0) = false →
 (decide (n7 > 1099511627776) = false →
 Triple Proofs.Tryz.prog 16
 #[Value.agg #[Value.int IntKind.i64 n1, Value.int IntKind.i64 n2, Value.int IntKind.i64 n3, Value.int IntKind.i64 n4, Value.int IntKind.i64 n5, Value.int IntKind.i64 n6]] H15
 fun v17 H18 =>
 ∃ b19,
 v17 = Value.bool b19 ∧
 ((!b19) = true → Triple Proofs.Tryz.prog 6 #[] H18 fun v20 H21 => ∃ b22, v20 = Value.bool b22 ∧ Q (Value.bool b22) H21) ∧
 ((!b19) = false →
 Triple Proofs.Tryz.prog 7
 #[Value.agg #[Value.int IntKind.i64 n1, Value.int IntKind.i64 n2, Value.int IntKind.i64 n3, Value.int IntKind.i64 n4, Value.int IntKind.i64 n5, Value.int IntKind.i64 n6],
 Value.int IntKind.i64 n7, Value.agg #[Value.int IntKind.i64 n8, Value.string s9, Value.int IntKind.i64 n10]]
 H18 fun v23 H24 =>
 ∃ a25 a26 k27 k28,
 v23 = Value.tuple #[Value.pointer a25, Value.slice a26 k27 k28] ∧
 ∃ (R29 : Rl) (M30 : Mu),
 R29 [Value.int IntKind.i64 0, Value.int IntKind.i64 0] H24 ∧
 ∀ (n31 n32 : Int) (H33 : PHeap),
 R29 [Value.int IntKind.i64 n31, Value.int IntKind.i64 n32] H33 →
 (decide (n32 < (↑k12 : Int)) = true →
 Ob (a11 ≠ none ∧ 0 ≤ n32 ∧ n32 < (↑k12 : Int)) ∧
 ∃ n34 n35 n36 n37 s38 n39 n40 n41 n42 n43 a44 k45 k46 a47 k48 k49 a50 k51 k52,
 Reads H33 (elemA a11 n32 13)
 [Value.int IntKind.i64 n34, Value.int IntKind.i64 n35, Value.int IntKind.i64 n36, Value.int IntKind.i64 n37, Value.string s38,
 Value.int IntKind.i64 n39, Value.int IntKind.i64 n40, Value.int IntKind.i64 n41, Value.int IntKind.i64 n42, Value.int IntKind.i64 n43,
 Value.slice a44 k45 k46, Value.slice a47 k48 k49, Value.slice a50 k51 k52] ∧
 ((n34 == 0) = true →
 Triple Proofs.Tryz.prog 12 #[Value.pointer a25] H33 fun v53 H54 =>
 ∃ a55 k56 k57,
 v53 = Value.slice a55 k56 k57 ∧
 R29 [Value.int IntKind.i64 (IntKind.i64.wrap (n31 + (↑k48 : Int))), Value.int IntKind.i64 (IntKind.i64.wrap (n32 + 1))] H54 ∧
 Less (M30 [Value.int IntKind.i64 (IntKind.i64.wrap (n31 + (↑k48 : Int))), Value.int IntKind.i64 (IntKind.i64.wrap (n32 + 1))] H54)
 (M30 [Value.int IntKind.i64 n31, Value.int IntKind.i64 n32] H33)) ∧
 ((n34 == 0) = false →
 Triple Proofs.Tryz.prog 14
 #[Value.pointer a25,
 Value.agg
 #[Value.int IntKind.i64 n34, Value.int IntKind.i64 n35, Value.int IntKind.i64 n36, Value.int IntKind.i64 n37, Value.string s38,
 Value.int IntKind.i64 n39, Value.int IntKind.i64 n40, Value.int IntKind.i64 n41, Value.int IntKind.i64 n42, Value.int IntKind.i64 n43,
 Value.slice a44 k45 k46, Value.slice a47 k48 k49, Value.slice a50 k51 k52]]
 H33 fun v58 H59 =>
 ∃ a60 k61 k62,
 v58 = Value.slice a60 k61 k62 ∧
 R29 [Value.int IntKind.i64 (IntKind.i64.wrap (n31 + (↑k48 : Int))), Value.int IntKind.i64 (IntKind.i64.wrap (n32 + 1))] H59 ∧
 Less (M30 [Value.int IntKind.i64 (IntKind.i64.wrap (n31 + (↑k48 : Int))), Value.int IntKind.i64 (IntKind.i64.wrap (n32 + 1))] H59)
 (M30 [Value.int IntKind.i64 n31, Value.int IntKind.i64 n32] H33))) ∧
 (decide (n32 < (↑k12 : Int)) = false →
 ∃ (R63 : Rl) (M64 : Mu),
 R63 [Value.int IntKind.i64 0] H33 ∧
 ∀ (n65 : Int) (H66 : PHeap),
 R63 [Value.int IntKind.i64 n65] H66 →
 (decide
 (n65 <
 IntKind.i64.wrap
 (IntKind.i64.wrap (IntKind.i64.wrap (IntKind.i64.wrap (2 * n31) + IntKind.i64.wrap (2 * (↑k12 : Int))) + 4) *
 IntKind.i64.wrap (n6 + 1))) =
 true →
 Triple Proofs.Tryz.prog 12 #[Value.pointer a25] H66 fun v67 H68 =>
 ∃ a69 k70 k71,
 v67 = Value.slice a69 k70 k71 ∧
 R63 [Value.int IntKind.i64 (IntKind.i64.wrap (n65 + 1))] H68 ∧
 Less (M64 [Value.int IntKind.i64 (IntKind.i64.wrap (n65 + 1))] H68) (M64 [Value.int IntKind.i64 n65] H66)) ∧
 (decide
 (n65 <
 IntKind.i64.wrap
 (IntKind.i64.wrap (IntKind.i64.wrap (IntKind.i64.wrap (2 * n31) + IntKind.i64.wrap (2 * (↑k12 : Int))) + 4) *
 IntKind.i64.wrap (n6 + 1))) =
 false →
 Triple Proofs.Tryz.prog 9 #[Value.pointer a25] H66 fun v72 H73 =>
 ∃ a74 k75 k76 b77,
 v72 = Value.tuple #[Value.slice a74 k75 k76, Value.bool b77] ∧
 Triple Proofs.Tryz.prog 9 #[Value.pointer none] H73 fun v78 H79 =>
 ∃ a80 k81 k82 b83,
 v78 = Value.tuple #[Value.slice a80 k81 k82, Value.bool b83] ∧
 (b77 = true →
 Triple Proofs.Tryz.prog 12 #[Value.pointer a25] H79 fun v84 H85 =>
 ∃ a86 k87 k88,
 v84 = Value.slice a86 k87 k88 ∧
 (((↑k87 : Int) == 0) = true →
 ((!b83) = true →
 Triple Proofs.Tryz.prog 12 #[Value.pointer none] H85 fun v89 H90 =>
 ∃ a91 k92 k93,
 v89 = Value.slice a91 k92 k93 ∧
 Triple Proofs.Tryz.prog 14
 #[Value.pointer none,
 Value.agg
 #[Value.int IntKind.i64 0, Value.int IntKind.i64 0, Value.int IntKind.i64 0,
 Value.int IntKind.i64 0, Value.string ({ data := #[] } : ByteArray), Value.int IntKind.i64 0,
 Value.int IntKind.i64 0, Value.int IntKind.i64 0, Value.int IntKind.i64 0,
 Value.int IntKind.i64 0, Value.slice none 0 0, Value.slice none 0 0, Value.slice none 0 0]]
 H90 fun v94 H95 =>
 ∃ a96 k97 k98,
 v94 = Value.slice a96 k97 k98 ∧
 ((IntKind.i64.wrap ((↑k92 : Int) + (↑k97 : Int)) == 0) = true →
 Triple Proofs.Tryz.prog 6 #[] H95 fun v99 H100 =>
 ∃ b101, v99 = Value.bool b101 ∧ Q (Value.bool b101) H100) ∧
 ((IntKind.i64.wrap ((↑k92 : Int) + (↑k97 : Int)) == 0) = !true → Q (Value.bool false) H95)) ∧
 ((!b83) = !true → Q (Value.bool false) H85)) ∧
 (((↑k87 : Int) == 0) = !true → Q (Value.bool false) H85)) ∧
 (b77 = !true → Q (Value.bool false) H79))))) ∧
 (decide (n7 > 1099511627776) = !false → Triple Proofs.Tryz.prog 6 #[] H15 fun v102 H103 => ∃ b104, v102 = Value.bool b104 ∧ Q (Value.bool b104) H103)) ∧
 (decide (n7 < 0) = !false → Triple Proofs.Tryz.prog 6 #[] H15 fun v105 H106 => ∃ b107, v105 = Value.bool b107 ∧ Q (Value.bool b107) H106)) ∧
 (b16 = !false → Triple Proofs.Tryz.prog 6 #[] H15 fun v108 H109 => ∃ b110, v108 = Value.bool b110 ∧ Q (Value.bool b110) H109)) :
 Triple Go.Proofs.Tryz.prog 4 ([Value.agg #[Value.int IntKind.i64 n1, Value.int IntKind.i64 n2, Value.int IntKind.i64 n3, Value.int IntKind.i64 n4, Value.int IntKind.i64 n5, Value.int IntKind.i64 n6],
 Value.agg #[Value.int IntKind.i64 n7, Value.int IntKind.i64 n8, Value.string s9, Value.int IntKind.i64 n10], Value.slice a11 k12 k13]).toArray H Q :=
 Triple.of_vc lawCEnds.cx (by kernel_rfl) h
theorem lawCFar.vc (n1 : Int) (n2 : Int) (n3 : Int) (n4 : Int) (n5 : Int) (n6 : Int) (n7 : Int) (s8 : ByteArray) (n9 : Int) (a10 : Option Addr) (k11 : Nat) (k12 : Nat) (H : PHeap) (Q : Value → PHeap → Prop)
 (h : Triple Proofs.Tryz.prog 17 #[Value.slice a10 k11 k12] H fun v13 H14 =>
 ∃ b15,
 v13 = Value.bool b15 ∧
 (b15 = false →
 Triple Proofs.Tryz.prog 16
 #[Value.agg #[Value.int IntKind.i64 n1, Value.int IntKind.i64 n2, Value.int IntKind.i64 n3, Value.int IntKind.i64 n4, Value.int IntKind.i64 n5, Value.int IntKind.i64 n6]] H14
 fun v16 H17 => ∃ b18, v16 = Value.bool b18 ∧ Q (Value.bool (bif b18 then bif decide (n1 > 12) then true else decide ((↑s8.size : Int) > 40) else decide ((↑s8.size : Int) > 40))) H17) ∧
 (b15 = !false → Q (Value.bool true) H14)) :
 Triple Go.Proofs.Tryz.prog 5 ([Value.agg #[Value.int IntKind.i64 n1, Value.int IntKind.i64 n2, Value.int IntKind.i64 n3, Value.int IntKind.i64 n4, Value.int IntKind.i64 n5, Value.int IntKind.i64 n6],
 Value.agg #[Value.int IntKind.i64 n7, Value.string s8, Value.int IntKind.i64 n9], Value.slice a10 k11 k12]).toArray H Q :=
 Triple.of_vc lawCFar.cx (by kernel_rfl) h
theorem lawCAlive.vc (H : PHeap) (Q : Value → PHeap → Prop)
 (h : Triple Proofs.Tryz.prog 18 #[] H fun v1 H2 =>
 ∃ n3 n4 n5 n6 n7 n8,
 v1 = Value.agg #[Value.int IntKind.i64 n3, Value.int IntKind.i64 n4, Value.int IntKind.i64 n5, Value.int IntKind.i64 n6, Value.int IntKind.i64 n7, Value.int IntKind.i64 n8] ∧
 Triple Proofs.Tryz.prog 7
 #[Value.agg #[Value.int IntKind.i64 n3, Value.int IntKind.i64 n4, Value.int IntKind.i64 n5, Value.int IntKind.i64 n6, Value.int IntKind.i64 n7, Value.int IntKind.i64 n8],
 Value.int IntKind.i64 5, Value.agg #[Value.int IntKind.i64 1, Value.string ({ data := #[] } : ByteArray), Value.int IntKind.i64 0]]
 H2 fun v9 H10 =>
 ∃ a11 a12 k13 k14,
 v9 = Value.tuple #[Value.pointer a11, Value.slice a12 k13 k14] ∧
 ∃ (R15 : Rl) (M16 : Mu),
 R15 [Value.int IntKind.i64 0] H10 ∧
 ∀ (n17 : Int) (H18 : PHeap),
 R15 [Value.int IntKind.i64 n17] H18 →
 (decide (n17 < (↑k13 : Int)) = true →
 Ob (a12 ≠ none ∧ 0 ≤ n17 ∧ n17 < (↑k13 : Int)) ∧
 ∃ n19 n20 n21 n22 s23 n24 n25 n26 n27 n28 a29 k30 k31 a32 k33 k34 a35 k36 k37,
 Reads H18 (elemA a12 n17 13)
 [Value.int IntKind.i64 n19, Value.int IntKind.i64 n20, Value.int IntKind.i64 n21, Value.int IntKind.i64 n22, Value.string s23, Value.int IntKind.i64 n24,
 Value.int IntKind.i64 n25, Value.int IntKind.i64 n26, Value.int IntKind.i64 n27, Value.int IntKind.i64 n28, Value.slice a29 k30 k31, Value.slice a32 k33 k34,
 Value.slice a35 k36 k37] ∧
 ∀ (k38 : Nat),
 H18 k38 = none →
 Triple Proofs.Tryz.prog 14
 #[Value.pointer a11,
 Value.agg
 #[Value.int IntKind.i64 20, Value.int IntKind.i64 n21, Value.int IntKind.i64 0, Value.int IntKind.i64 5, Value.string ({ data := #[] } : ByteArray), Value.int IntKind.i64 0,
 Value.int IntKind.i64 0, Value.int IntKind.i64 0, Value.int IntKind.i64 0, Value.int IntKind.i64 1, Value.slice (at0 k38) 1 1,
 Value.slice none 0 0, Value.slice none 0 0]]
 (H18.upd k38 (Obj.cells #[Value.int IntKind.i64 1] 3)) fun v39 H40 =>
 ∃ a41 k42 k43,
 v39 = Value.slice a41 k42 k43 ∧
 R15 [Value.int IntKind.i64 (IntKind.i64.wrap (n17 + 1))] H40 ∧
 Less (M16 [Value.int IntKind.i64 (IntKind.i64.wrap (n17 + 1))] H40) (M16 [Value.int IntKind.i64 n17] H18)) ∧
 (decide (n17 < (↑k13 : Int)) = false →
 Triple Proofs.Tryz.prog 9 #[Value.pointer a11] H18 fun v44 H45 =>
 ∃ a46 k47 k48 b49,
 v44 = Value.tuple #[Value.slice a46 k47 k48, Value.bool b49] ∧ Q (Value.bool (bif (↑k13 : Int) == 4 then bif b49 then (↑k47 : Int) == 0 else false else false)) H45)) :
 Triple Go.Proofs.Tryz.prog 6 ([]).toArray H Q :=
 Triple.of_vc lawCAlive.cx (by kernel_rfl) h
end Go.Vc
namespace Go.Cho
open Go.Vx Go.Vc Go.Proofs Go.Pln Go.Stl Go.Agr
open Go.Rnd (takesG insG froms againG OkM AscG RdS Both)
open Go.Txt (sE)
open Go.Page (limL namesL susL susStep cntL sumN names_ noS stateL)
def Near (m : Msg) : Prop := (names_ m).n ≤ 20 ∧ ∀ x ∈ (names_ m).l, x.size ≤ 40
theorem farM_okC {H : PHeap} {m : Msg} (h : MsgR H m) : Triple Tryz.prog 51 #[Rnd.vM m] H fun v H' => ∃ b, v = .bool b ∧ H' = H ∧ (b = false → OkC H m ∧ Near m) := by
  obtain ⟨y1, y2, y3, y4, y5, y6, y7, y8, y9, y10, ⟨ya, yb, yc, yl⟩, ⟨za, zb, zc, zl⟩, ⟨wa, wb, wc, wl⟩⟩ := m
  have hz : RdL H sE 1 za zb zl := h.names
  refine farM.vc y1 y2 y3 y4 y5 y6 y7 y8 y9 y10 ya yb yc za zb zc wa wb wc H _ ⟨fun _ => ⟨fun e2 => ⟨fun e3 => ⟨fun e4 => (Lab.far_ok hz).mono ?_, fun _ => ⟨true, rfl, rfl, fun e => by cases e⟩⟩, fun _ => ⟨true, rfl, rfl, fun e => by cases e⟩⟩, fun _ => ⟨true, rfl, rfl, fun e => by cases e⟩⟩, fun _ => ⟨true, rfl, rfl, fun e => by cases e⟩⟩
  rintro _ H' ⟨b, rfl, rfl, hb⟩
  simp at e2 e3 e4
  exact ⟨b, rfl, b, rfl, rfl, fun e => ⟨⟨⟨h.who, h.names, h.data, by show yb ≤ 100000; omega, by show zb ≤ 100000; omega, by show wb ≤ 100000; omega⟩, by show zb ≤ 100; omega⟩, by show zb ≤ 20; omega, (hb e).2⟩⟩
theorem farC_ok {H : PHeap} {oa : Option Addr} {n c : Nat} {l : List Msg} (hl : RdL H mE 13 oa n l) (hm : ∀ m ∈ l, MsgR H m) (hn : n ≤ maxLen) :
    Triple Tryz.prog 17 #[.slice oa n c] H fun v H' => ∃ b, v = .bool b ∧ H' = H ∧ (b = false → n ≤ 200 ∧ ∀ m ∈ l, OkC H m ∧ Near m) := by
  have hll := hl.len
  have hmx : maxLen ≤ 9223372036854775807 := by decide
  refine lawFar.vc oa n c H _ ⟨fun t H' => match t with | [.int _ i] => 0 ≤ i ∧ i ≤ n ∧ H' = H ∧ ∀ m ∈ l.take i.toNat, OkC H m ∧ Near m | _ => False, fun t _ => match t with | [.int _ i] => (n - i).toNat | _ => 0, ⟨by omega, by omega, rfl, by simp⟩, ?_⟩
  rintro i H1 ⟨i0, i1, hH, hall⟩
  obtain rfl := hH.symm
  obtain ⟨i, rfl⟩ : ∃ j : Nat, i = j := ⟨i.toNat, by omega⟩
  rw [Int.toNat_natCast] at hall
  refine ⟨fun hi => ?_, fun hi => ?_⟩
  · have hi' : i < n := by simpa using hi
    obtain ⟨x, hx, hxr⟩ := hl.ex (i := (i : Int)) (by omega) (by omega)
    rw [Int.toNat_natCast] at hx
    have hfar := farM_okC (hm x (List.mem_of_getElem? hx))
    have key : ∀ b : Bool, (b = false → OkC H x ∧ Near x) → b = false → ∀ m ∈ l.take (i + 1), OkC H m ∧ Near m := fun b hb e m hm' => by
      rw [List.take_add_one, hx] at hm'
      rcases List.mem_append.1 hm' with h | h
      · exact hall m h
      · simp at h; subst h; exact hb e
    obtain ⟨y1, y2, y3, y4, y5, y6, y7, y8, y9, y10, ⟨ya, yb, yc, yl⟩, ⟨za, zb, zc, zl⟩, ⟨wa, wb, wc, wl⟩⟩ := x
    refine ⟨hl.ob (by omega) (by omega), y1, y2, y3, y4, y5, y6, y7, y8, y9, y10, ya, yb, yc, za, zb, zc, wa, wb, wc, hxr, hfar.mono ?_⟩
    rintro _ H28 ⟨b, rfl, hH, hb⟩
    obtain rfl := hH.symm
    refine ⟨b, rfl, fun e => ⟨true, rfl, rfl, fun e => by cases e⟩, fun e => ?_⟩
    rw [wrap64 (by omega) (by omega)]
    exact ⟨⟨by omega, by omega, rfl, by rw [show ((i : Int) + 1).toNat = i + 1 by omega]; exact key b hb e⟩, ⟨by simp only; omega⟩⟩
  · have hi' : ¬ i < n := by simpa using hi
    rw [List.take_of_length_le (by omega)] at hall
    exact ⟨_, rfl, rfl, fun e => ⟨by simp at e; omega, hall⟩⟩
theorem farW_ok {H : PHeap} {p : Plan} {ch : Ch} {oa : Option Addr} {n c : Nat} {l : List Msg} (hl : RdL H mE 13 oa n l) (hm : ∀ m ∈ l, MsgR H m) (hn : n ≤ maxLen) :
    Triple Tryz.prog 5 #[p.v, .agg #[vI ch.k, .string ch.nm, vI ch.tg], .slice oa n c] H fun v H' => ∃ b, v = .bool b ∧ H' = H ∧ (b = false → n ≤ 200 ∧ (∀ m ∈ l, OkC H m ∧ Near m) ∧ (p.ok = true → p.n ≤ 12) ∧ ch.nm.size ≤ 40) := by
  refine lawCFar.vc p.n p.t p.l p.w p.s p.r ch.k ch.nm ch.tg oa n c H _ ((farC_ok hl hm hn).mono ?_)
  rintro _ H1 ⟨b, rfl, hH, hb⟩
  obtain rfl := hH.symm
  refine ⟨b, rfl, fun e => (refRight_ok p).use ⟨_, rfl, _, rfl, rfl, fun e2 => ?_⟩, fun _ => ⟨true, rfl, rfl, fun e => by cases e⟩⟩
  obtain ⟨h1, h2⟩ := hb e
  refine ⟨h1, h2, fun hp => ?_, ?_⟩
  · rw [hp] at e2
    by_cases h : p.n > 12
    · simp [h] at e2
    · omega
  · by_cases h : (ch.nm.size : Int) > 40
    · exfalso
      rw [decide_eq_true h] at e2
      revert e2
      cases p.ok <;> cases decide (p.n > 12) <;> decide
    · omega
theorem TkS.sub {H0 H : PHeap} {k : Nat} {t : TS} (h : TkS H0 H k t) : Sub H0 H := by
  obtain ⟨F, A, B, x, h1, h2, _⟩ := h
  exact h1.trans (h2.fa.trans h2.a)
theorem grow_upd {F A : PHeap} {q : Nat} {o : Obj} (hs : Sub F A) (hq : A q = none) : grow F A (A.upd q o) = F.upd q o := funext fun p => by
  by_cases e : p = q
  · subst e
    rw [grow_at hq, Vx.upd_eq, Vx.upd_eq]
  · rw [Vx.upd_ne _ _ e]
    unfold grow
    cases hA : A p with
    | none => simp only; rw [Vx.upd_ne _ _ e, hA, hs.none hA]
    | some o' => rfl
theorem TkS.ext {H0 H : PHeap} {k q : Nat} {t : TS} {o : Obj} (h : TkS H0 H k t) (hq : H q = none) : TkS (H0.upd q o) (H.upd q o) k t := by
  obtain ⟨F, A, B, x, h1, h2, h3, h4⟩ := h
  have qA := h2.a.none hq
  have qB := h2.b.none hq
  have qF := h2.fa.none qA
  have up : ∀ {X Y : PHeap}, Sub X Y → Sub (X.upd q o) (Y.upd q o) := fun {X} {Y} hs => ⟨fun p o' hp => by
    by_cases e : p = q
    · rw [e, Vx.upd_eq] at hp ⊢; exact hp
    · rw [Vx.upd_ne _ _ e] at hp ⊢; exact hs.le _ _ hp⟩
  have hkq : k ≠ q := fun e => h3.bk (by rw [e]; exact qB)
  have sA : Sub A (A.upd q o) := Sub.upd o qA
  have sB : Sub B (B.upd q o) := Sub.upd o qB
  have sF : Sub F (F.upd q o) := Sub.upd o qF
  have offs : ∀ {ty : TypeId} {sz n c : Nat} {oa : Option Addr} {xs : List Value}, Owns B ty sz oa n c xs → Off F oa → Off (F.upd q o) oa := fun ho hf z hz => by
    subst hz
    obtain ⟨o', ho'⟩ := ho.blk
    rw [Vx.upd_ne _ _ fun e => by rw [e, qB] at ho'; cases ho']
    exact hf z rfl
  refine ⟨F.upd q o, A.upd q o, B.upd q o, x, up h1, ⟨up h2.fa, up h2.fb, up h2.a, up h2.b, fun p hp => ?_⟩,
    ⟨up h3.sub, by rw [Vx.upd_ne _ _ hkq]; exact h3.off, h3.bx.sub sB, h3.pn.mono sF, h3.ps.mono fun _ _ _ hb => sB.le _ _ hb, h3.nm.mono sF, h3.nmc, h3.su.mono fun _ _ _ hb => sB.le _ _ hb, h3.ch.mono fun _ _ _ hb => sB.le _ _ hb,
      ⟨offs h3.ps h3.ap.ps, offs h3.su h3.ap.su, offs h3.ch h3.ap.ch, h3.ap.psk, h3.ap.suk, h3.ap.chk, h3.ap.pu, h3.ap.pc, h3.ap.uc⟩, h3.an, h3.aw.mono sF⟩, ⟨h4.j, fun e => ?_, fun e e0 => ?_, h4.no⟩⟩
  · by_cases e : p = q
    · rw [e, Vx.upd_eq] at hp; cases hp
    · rw [Vx.upd_ne _ _ e] at hp ⊢
      rw [Vx.upd_ne _ _ e]
      exact h2.apart p hp
  · obtain ⟨ka, e1, kr, hA⟩ := h4.ag e
    have hka : ka ≠ q := fun e => by
      obtain ⟨_, _, _, _, _, _, _, _, _, _, h8, _⟩ := hA
      unfold Bx at h8
      rw [e, qA] at h8; cases h8
    exact ⟨ka, e1, kr, hA.ext sA sF (up h2.fa) (by rw [Vx.upd_ne _ _ hka]; exact hA.off) fun q' o' hq' => by
      by_cases e : q' = q
      · rw [e]; exact .inr qA
      · rw [Vx.upd_ne _ _ e] at hq'; exact .inl hq'⟩
  · obtain ⟨g1, g2, kr, asks, got, hr, hR, hB, hs, hok, hG⟩ := h4.rd e e0
    have hR' := RdS_grow hR sA
    rw [grow_upd h2.fa qA] at hR'
    exact ⟨g1, g2, kr, asks, got, hr, hR', hB, hs, fun m hm => (hok m hm).mono sF, fun m hm => (hG m hm).mono sF⟩
theorem name_pT (t : TS) : t.name.1.p = t.p := by
  unfold TS.name
  split
  · rfl
  · split <;> rfl
theorem answered_pT (t : TS) : t.answered.1.p = t.p := by
  unfold TS.answered
  split <;> rfl
theorem next_pT (t : TS) : t.next.1.p = t.p := by
  unfold TS.next TS.listed TS.named TS.mend TS.purge
  split
  · split
    · split
      · exact name_pT _
      · rfl
    · exact answered_pT t
  · split
    · exact name_pT _
    · split
      · split <;> rfl
      · split
        · split <;> rfl
        · exact answered_pT t
theorem goes_pT (t : TS) (r : Agr.St × List Msg) : (t.goes r).1.p = t.p := by
  unfold TS.goes
  split
  · split
    · exact next_pT _
    · rfl
  · rfl
theorem take_pT (t : TS) (m : Msg) : (t.take m).1.p = t.p := by
  unfold TS.take
  split
  · rfl
  · split
    · exact goes_pT _ _
    · split
      · rfl
      · split
        · split
          · exact next_pT (t.got m)
          · rfl
        · rfl
theorem tick_pT (t : TS) : t.tick.1.p = t.p := by
  unfold TS.tick
  split
  · rfl
  · split
    · exact goes_pT _ _
    · split
      · exact next_pT t
      · unfold TS.late
        split <;> rfl
theorem start_pT (p : Plan) (b : Int) (c : Ch) (o : Bool) : (start p b c o).1.p = p := by
  unfold start
  split
  · rfl
  · split
    · rfl
    · split
      · rfl
      · split <;> rfl
theorem TkS.agG {H0 H : PHeap} {k : Nat} {t : TS} (h : TkS H0 H k t) : t.agrees = true → t.A.G.length ≤ 256 := fun e => by
  obtain ⟨F, A, B, x, h1, h2, h3, h4⟩ := h
  obtain ⟨ka, _, hA⟩ := h4.ag e
  exact Cho.agG hA
theorem TkS.take {H0 H : PHeap} {k : Nat} {t : TS} {b : Nat} {m : Msg} (h : TkS H0 H k t) (hi : Iv b t) (hb : b + 100 ≤ 80000) (hn : t.p.n ≤ 100) (hm : OkC H0 m) :
    Triple Tryz.prog 14 #[.pointer (at0 k), Rnd.vM m] H (OutT H0 k (t.take m)) := by
  obtain ⟨F, A, B, x, h1, h2, h3, h4⟩ := h
  exact take_okO ⟨h1, h2, h3, h4⟩ hi hb hn hm
theorem TkS.tick {H0 H : PHeap} {k : Nat} {t : TS} {b : Nat} (h : TkS H0 H k t) (hi : Iv b t) (hb : b ≤ 80000) (hn : t.p.n ≤ 100) :
    Triple Tryz.prog 12 #[.pointer (at0 k)] H (OutT H0 k t.tick) := by
  obtain ⟨F, A, B, x, h1, h2, h3, h4⟩ := h
  exact tick_okO ⟨h1, h2, h3, h4⟩ hi hb hn
def P8 : Plan := ⟨4, 1, 2, 3, 16, 3⟩
def c8 : Ch := ⟨1, noS, 0⟩
def cMsg (j : Int) (k : Nat) : Msg := (20, j, 0, 5, ⟨#[]⟩, 0, 0, 0, 0, 1, ⟨at0 k, 1, 1, [1]⟩, ⟨none, 0, 0, []⟩, ⟨none, 0, 0, []⟩)
def cRun : List Nat → TS
  | [] => (start P8 5 c8 true).1
  | k :: ks => ((cRun ks).take (cMsg (ks.length + 1) k)).1
theorem cRun_end (k1 k2 k3 k4 : Nat) : (cRun [k4, k3, k2, k1]).at_ = 0 ∧ (cRun [k4, k3, k2, k1]).chores = [] := ⟨by kernel_rfl, by kernel_rfl⟩
theorem c8_any (o : Bool) : start P8 5 c8 o = start P8 5 c8 true := by cases o <;> rfl
theorem c8_said : ∀ (i : Nat) x, (start P8 5 c8 true).2[i]? = some x → Rnd.to_ x = (i : Int) + 1 := fun i x h => by
  have e : (start P8 5 c8 true).2 = sendL 5 (mNames noS) [1, 2, 3, 4] := by kernel_rfl
  rw [e] at h
  unfold sendL at h
  match i, h with
  | 0, h => simp at h; rw [← h]; rfl
  | 1, h => simp at h; rw [← h]; rfl
  | 2, h => simp at h; rw [← h]; rfl
  | 3, h => simp at h; rw [← h]; rfl
  | i + 4, h => simp at h
theorem c8_len : (start P8 5 c8 true).2.length = 4 := by kernel_rfl
theorem to_strip (m : Msg) : Rnd.to_ (strip m) = Rnd.to_ m := rfl
theorem alive_okO (H : PHeap) : Triple Tryz.prog 6 #[] H fun v H' => v = .bool true ∧ Sub H H' := by
  refine lawCAlive.vc H _ (l8Some.vc H _ ⟨4, 1, 2, 3, 16, 3, rfl, (start_okO (p := P8) (b := 5) (c := c8)).mono ?_⟩)
  rintro _ H10 ⟨k, w, rfl, _, hk, hF⟩
  obtain ⟨F0, hF0, ⟨b, n, c, l, rfl, hrd, _, hst⟩, hT⟩ := hF rfl (by decide)
  rw [c8_any] at hst hT
  have hn : n = 4 := by
    rw [← hrd.len, ← c8_len, ← hst, List.length_map]
  subst hn
  have hT0 : TkS F0 H10 k (cRun []) := hT
  have hI0 : Iv 0 (cRun []) := (start_iv (p := P8) (b := 5) (c := c8) (o := true)).iv
  refine ⟨at0 k, b, 4, c, rfl, fun t H' => match t with | [.int _ i] => 0 ≤ i ∧ i ≤ 4 ∧ ∃ (F : PHeap) (ks : List Nat), Sub F0 F ∧ (ks.length : Int) = i ∧ TkS F H' k (cRun ks) ∧ Iv 0 (cRun ks) ∧ (cRun ks).p = P8 | _ => False, fun t _ => match t with | [.int _ i] => (4 - i).toNat | _ => 0, ⟨by omega, by omega, F0, [], Sub.refl _, rfl, hT0, hI0, rfl⟩, ?_⟩
  rintro i H18 ⟨i0, i1, F, ks, hF, hlen, hT, hI, hP⟩
  refine ⟨fun hi => ?_, fun hi => ?_⟩
  · have hi' : i < 4 := by simpa using hi
    have hrd18 := hrd.mono (hF.trans hT.sub)
    obtain ⟨x, hx, hxr⟩ := hrd18.ex (i := i) (by omega) (by omega)
    have hto : Rnd.to_ x = (ks.length : Int) + 1 := by
      have := c8_said i.toNat (strip x) (by rw [← hst, List.getElem?_map, hx]; rfl)
      rw [to_strip] at this
      omega
    obtain ⟨y1, y2, y3, y4, y5, y6, y7, y8, y9, y10, ⟨ya, yb, yc, yl⟩, ⟨za, zb, zc, zl⟩, ⟨wa, wb, wc, wl⟩⟩ := x
    have hto' : y3 = (ks.length : Int) + 1 := hto
    refine ⟨hrd18.ob (by omega) (by omega), y1, y2, y3, y4, y5, y6, y7, y8, y9, y10, ya, yb, yc, za, zb, zc, wa, wb, wc, hxr, fun k38 hk38 => ?_⟩
    have hFk : F k38 = none := hT.sub.none hk38
    have hT' := hT.ext (o := .cells #[vI 1] 3 (0, 0)) hk38
    have hok : OkC (F.upd k38 (.cells #[vI 1] 3 (0, 0))) (cMsg ((ks.length : Int) + 1) k38) :=
      ⟨⟨Bx.rd (E := iE) (l := [1]) Rnd.iLen (Bx.new F k38 3 [vI 1]), RdL.nil _ _ _, RdL.nil _ _ _, by simp [cMsg], by simp [cMsg], by simp [cMsg]⟩, by simp [cMsg, names_]⟩
    have hG := hT'.agG
    have ht := hT'.take hI (by omega) (by rw [hP]; decide) hok
    have hI' := take_iv (m := cMsg ((ks.length : Int) + 1) k38) hI hG
    rw [← hto'] at ht
    refine ht.mono ?_
    rintro _ H40 ⟨⟨b', n', c', _, rfl, _⟩, hT40⟩
    rw [Rnd.wrapS (by omega) (by omega)]
    refine ⟨b', n', c', rfl, ⟨by omega, by omega, _, k38 :: ks, hF.trans (Sub.upd (.cells #[vI 1] 3 (0, 0)) hFk), by rw [List.length_cons]; omega, ?_, hI'.iv, ?_⟩, ⟨by simp only; omega⟩⟩
    · rw [hto'] at hT40
      exact hT40
    · exact (take_pT _ _).trans hP
  · have hi' : ¬ i < 4 := by simpa using hi
    have hl4 : ks.length = 4 := by omega
    match ks, hl4 with
    | [k4, k3, k2, k1], _ =>
      obtain ⟨e1, e2⟩ := cRun_end k1 k2 k3 k4
      refine (done_okO hT (by rw [e2]; decide)).mono ?_
      rintro _ H45 ⟨b', n', c', rfl, hr, hs⟩
      rw [e1, e2] at hr
      have hn' : n' = 0 := hr.len.symm
      subst hn'
      refine ⟨b', 0, c', _, rfl, ?_, hF0.trans (hF.trans (hT.sub.trans hs))⟩
      rw [e1]; rfl
end Go.Cho
namespace Go.Cho
open Go.Vx Go.Vc Go.Proofs Go.Pln Go.Stl Go.Agr
open Go.Rnd (takesG insG froms againG OkM AscG RdS Both)
open Go.Page (limL namesL susL susStep cntL sumN names_ noS stateL)
theorem ends_okO {H : PHeap} {p : Plan} {b : Int} {ch : Ch} {oa : Option Addr} {n c : Nat} {l : List Msg} (hl : RdL H mE 13 oa n l) (hm : ∀ x ∈ l, MsgR H x) (hn : n ≤ maxLen) :
    Triple Tryz.prog 4 #[p.v, .agg #[vI b, vI ch.k, .string ch.nm, vI ch.tg], .slice oa n c] H fun v H' => v = .bool true ∧ Sub H H' := by
  have hll := hl.len
  have al : ∀ {G : PHeap}, Sub H G → Triple Tryz.prog 6 #[] G fun v H' => ∃ b, v = .bool b ∧ (Value.bool b = .bool true ∧ Sub H H') := fun hs => (alive_okO _).mono fun _ _ ⟨e, h⟩ => ⟨true, e, rfl, hs.trans h⟩
  refine lawCEnds.vc p.n p.t p.l p.w p.s p.r b ch.k ch.nm ch.tg oa n c H _ ((farW_ok hl hm hn).mono ?_)
  rintro _ H15 ⟨b16, rfl, hH, hb⟩
  rw [hH]
  refine ⟨b16, rfl, fun e1 => ⟨fun _ => ⟨fun _ => (refRight_ok p).use ⟨_, rfl, fun _ => al (Sub.refl _), fun e2 => ?_⟩, fun _ => al (Sub.refl _)⟩, fun _ => al (Sub.refl _)⟩, fun _ => al (Sub.refl _)⟩
  obtain ⟨hn2, hok, h12, _⟩ := hb e1
  have hp : p.ok = true := by
    cases h : p.ok with
    | true => rfl
    | false => rw [h] at e2; simp at e2
  have hp12 := h12 hp
  obtain ⟨r1, r2, r3⟩ := r_ok hp
  refine (start_okO (p := p) (b := b) (c := ch)).mono ?_
  rintro _ H24 ⟨k, _, rfl, ⟨⟨b0, n0, c0, l0, rfl, _⟩, hT0⟩, hk, _⟩
  have hI0 : Iv 0 (start p b ch (nameB ch.nm)).1 := start_iv.iv
  have hE0 : En (start p b ch (nameB ch.nm)).1 := en_start
  have hp0 := start_pT p b ch (nameB ch.nm)
  generalize (start p b ch (nameB ch.nm)).1 = t0 at hT0 hI0 hE0 hp0
  refine ⟨at0 k, b0, n0, c0, rfl, fun s H' => match s with | [.int _ a, .int _ i] => 0 ≤ i ∧ i ≤ n ∧ ∃ (nm : Nat) (t : TS), a = nm ∧ (nm : Int) ≤ 20 * i ∧ TkS H H' k t ∧ Iv nm t ∧ En t ∧ t.p = p | _ => False, fun s _ => match s with | [_, .int _ i] => (n - i).toNat | _ => 0, ⟨by omega, by omega, 0, t0, rfl, by omega, hT0, hI0, hE0, hp0⟩, ?_⟩
  rintro a i H33 ⟨i0, i1, nm, t, rfl, hnm, hT, hI, hE, htp⟩
  have htn : t.p.n ≤ 100 := by rw [htp]; omega
  refine ⟨fun hi => ?_, fun hi => ?_⟩
  · have hi' : i < n := by simpa using hi
    have hl33 := hl.mono hT.sub
    obtain ⟨y, hy, hyr⟩ := hl33.ex (i := i) (by omega) (by omega)
    obtain ⟨hoky, hnear, _⟩ := hok y (List.mem_of_getElem? hy)
    have htk := hT.take hI (by omega) htn hoky
    have hIt := (take_iv (m := y) hI hT.agG).iv
    have hEt := en_take (m := y) hI hE
    have hnl : (names_ y).l.length = (names_ y).n := hoky.ok.names.len
    rw [hnl] at hIt
    have hpt := (take_pT t y).trans htp
    obtain ⟨y1, y2, y3, y4, y5, y6, y7, y8, y9, y10, ⟨ya, yb, yc, yl⟩, ⟨za, zb, zc, zl⟩, ⟨wa, wb, wc, wl⟩⟩ := y
    have hz : zb ≤ 20 := hnear
    have hw := wrap64 (n := (nm : Int) + (zb : Int)) (by omega) (by omega)
    refine ⟨hl33.ob (by omega) (by omega), y1, y2, y3, y4, y5, y6, y7, y8, y9, y10, ya, yb, yc, za, zb, zc, wa, wb, wc, hyr, fun e3 => (hT.tick hI (by omega) htn).mono ?_, fun e3 => htk.mono ?_⟩
    · rintro _ H54 ⟨⟨b', n', c', _, rfl, _⟩, hT54⟩
      rw [hw, Rnd.wrapS (i := i) (by omega) (by omega)]
      exact ⟨b', n', c', rfl, ⟨by omega, by omega, nm + zb, _, by omega, by omega, hT54, (tick_iv hI hT.agG).iv.mono (by omega), en_tick hI hE, (tick_pT t).trans htp⟩, ⟨by simp only; omega⟩⟩
    · rintro _ H54 ⟨⟨b', n', c', _, rfl, _⟩, hT54⟩
      rw [hw, Rnd.wrapS (i := i) (by omega) (by omega)]
      exact ⟨b', n', c', rfl, ⟨by omega, by omega, nm + zb, _, by omega, by omega, hT54, hIt, hEt, hpt⟩, ⟨by simp only; omega⟩⟩
  · have hi' : ¬ i < n := by simpa using hi
    have hnm' : nm ≤ 4000 := by omega
    have hprod : (2 * (nm : Int) + 2 * (n : Int) + 4) * (p.r + 1) ≤ 8404 * 65 := Int.mul_le_mul (by omega) (by omega) (by omega) (by omega)
    have hpos : 0 ≤ (2 * (nm : Int) + 2 * (n : Int) + 4) * (p.r + 1) := Int.mul_nonneg (by omega) (by omega)
    have hend : (2 * (nm : Int) + 4) * (t.p.r + 1) ≤ (2 * (nm : Int) + 2 * (n : Int) + 4) * (p.r + 1) := by
      rw [htp]
      exact Int.mul_le_mul_of_nonneg_right (by omega) (by omega)
    have hEn := en_ends hI hE hend
    rw [wrap64 (n := 2 * (nm : Int)) (by omega) (by omega), wrap64 (n := 2 * (n : Int)) (by omega) (by omega), wrap64 (n := 2 * (nm : Int) + 2 * (n : Int)) (by omega) (by omega), wrap64 (n := 2 * (nm : Int) + 2 * (n : Int) + 4) (by omega) (by omega), wrap64 (n := p.r + 1) (by omega) (by omega), wrap64 (n := (2 * (nm : Int) + 2 * (n : Int) + 4) * (p.r + 1)) (by omega) (by omega)]
    generalize (2 * (nm : Int) + 2 * (n : Int) + 4) * (p.r + 1) = T at hprod hpos hend hEn
    refine ⟨fun s H' => match s with | [.int _ j] => 0 ≤ j ∧ j ≤ T ∧ ∃ t, TkS H H' k t ∧ Iv nm t ∧ EndsIn (T - j) t ∧ t.p = p | _ => False, fun s _ => match s with | [.int _ j] => (T - j).toNat | _ => 0, ⟨by omega, by omega, t, hT, hI, by rw [show T - 0 = T by omega]; exact hEn, htp⟩, ?_⟩
    clear hT hI hE htp htn hEn hend i0 i1 hi hi' hnm t i
    rintro j H66 ⟨j0, j1, t, hT, hI, hE, htp⟩
    have htn : t.p.n ≤ 100 := by rw [htp]; omega
    refine ⟨fun hj => (hT.tick hI (by omega) htn).mono ?_, fun hj => ?_⟩
    · have hj' : j < T := by simpa using hj
      rintro _ H68 ⟨⟨b', n', c', _, rfl, _⟩, hT68⟩
      rw [Rnd.wrapS (i := j) (by omega) (by omega)]
      exact ⟨b', n', c', rfl, ⟨by omega, by omega, _, hT68, (tick_iv hI hT.agG).iv, by rw [show T - (j + 1) = T - j - 1 by omega]; exact ends_tick hI hE, (tick_pT t).trans htp⟩, ⟨by simp only; omega⟩⟩
    · have hj' : ¬ j < T := by simpa using hj
      have h0 := ends_zero hI (by omega) hE
      have hf := hI.few
      refine (done_okO hT (by omega)).mono ?_
      rintro _ H73 ⟨b2, n2, c2, rfl, _, s73⟩
      rw [decide_eq_true h0]
      refine ⟨b2, n2, c2, true, rfl, (done_nilO _).mono ?_⟩
      rintro _ H79 ⟨rfl, hH79⟩
      rw [hH79]
      have hT73 := hT.mono s73
      refine ⟨none, 0, 0, false, rfl, fun _ => (hT73.tick hI (by omega) htn).mono ?_, fun e => by cases e⟩
      rintro _ H85 ⟨⟨b3, n3, c3, l3, rfl, hr3, _, hst⟩, hT85⟩
      have e3 : t.tick.2 = [] := by
        unfold TS.tick
        rw [if_pos h0]
      rw [e3] at hst
      have hl3 : l3 = [] := List.map_eq_nil_iff.1 hst
      have hn3 : n3 = 0 := by rw [← hr3.len, hl3]; rfl
      subst hn3
      refine ⟨b3, 0, c3, rfl, fun _ => ⟨fun _ => (tick_nilO _).mono ?_, fun e => by cases e⟩, fun e => by cases e⟩
      rintro _ H90 ⟨rfl, hH90⟩
      rw [hH90]
      refine ⟨none, 0, 0, rfl, (take_nilO _ Rnd.z0).mono ?_⟩
      rintro _ H95 ⟨rfl, hH95⟩
      rw [hH95]
      exact ⟨none, 0, 0, rfl, fun _ => al hT85.sub, fun e => by cases e⟩
end Go.Cho
