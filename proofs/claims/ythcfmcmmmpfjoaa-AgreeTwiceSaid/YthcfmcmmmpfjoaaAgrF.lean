/- The contracts of an agreement's methods: Take, Tick, Done. -/
import Derived.Test.YthcfmcmmmpfjoaaAgrE
namespace Go.Agr
open Go.Vx Go.Vc Go.Proofs Go.Pln Go.Stl
open Go.Rnd (takesG insG froms againG RdS Both OkM AscG)

theorem judge_ok {F H : PHeap} {k kr : Nat} {s : St} (h : AgK F H k kr s) {Q : Value → PHeap → Prop} (hQ : ∀ v H', Judged F k kr s s.judge v H' → Q v H') : CallY Try.prog (jv s.fixed) #[.pointer (at0 k)] H Q := by
  cases hf : s.fixed with
  | true => exact CallY.fn (by kernel_rfl) ((fixed_ok h hf).mono fun v H' hj => hQ v H' (by unfold St.judge; rw [hf, if_pos rfl]; exact hj))
  | false => exact CallY.fn (by kernel_rfl) ((asked_ok h hf).mono fun v H' hj => hQ v H' (by unfold St.judge; rw [hf, if_neg (by decide)]; exact hj))
theorem takes_ok {H : PHeap} {k : Nat} {s : St} {x : AV} {m : Msg} (hb : Bx H k tAg (cellsA s x)) : Triple Try.prog 25 #[.pointer (at0 k), Rnd.vM m] H fun v H' => v = .bool (s.takes m) ∧ H' = H := by
  obtain ⟨y1, y2, y3, y4, y5, y6, y7, y8, y9, y10, ⟨ya, yb, yc, yl⟩, ⟨za, zb, zc, zl⟩, ⟨wa, wb, wc, wl⟩⟩ := m
  have ht : s.takes (y1, y2, y3, y4, y5, y6, y7, y8, y9, y10, ⟨ya, yb, yc, yl⟩, ⟨za, zb, zc, zl⟩, ⟨wa, wb, wc, wl⟩) = (y4 == s.ballot && eqS y5 s.name && (if s.fixed then (if y1 == 16 then y10 == 4 && y8 == s.mark else y1 == 17 && y8 == s.mark && (if s.value.pr then (y10 == 2 || y10 == 3) && y6 == s.value.at_ && y7 == s.value.ep else y10 == 4)) else y1 == 14)) := rfl
  rw [ht]
  have rv : Reads H (fldA (at0 k) 16) s.value.c := hb.readsAt 16 fun j v hv => by
    match j, hv with
    | 0, hv => exact hv
    | 1, hv => exact hv
    | 2, hv => exact hv
    | 3, hv => exact hv
    | j + 4, hv => simp at hv
  refine agTakes.vc (at0 k) y1 y2 y3 y4 y5 y6 y7 y8 y9 y10 ya yb yc za zb zc wa wb wc H _ ⟨H, Sub.refl _, obP k, obP k, s.ballot, hb.fld (i := 6) rfl, fun e1 => ⟨obP k, obP k, s.name, hb.fld (i := 7) rfl, fun e2 => ?_, fun e2 => ⟨obP k, obP k, obF k 14, _, _, _, _, rv, obP k, obP k, obF k 14, s.fixed, hb.fld (i := 15) rfl, fun e3 => ?_, fun e3 => ⟨fun e4 => ⟨H, Sub.refl _, fun e5 => ⟨obP k, obP k, s.mark, hb.fld (i := 11) rfl, ?_⟩, fun e5 => ?_⟩, fun e4 => ⟨H, Sub.refl _, fun e5 => ⟨obP k, obP k, s.mark, hb.fld (i := 11) rfl, fun e6 => ?_, fun e6 => ⟨fun e7 => ?_, fun e7 => ?_⟩⟩, fun e5 => ?_⟩⟩⟩⟩, fun e1 => ?_⟩
  · have e2' : eqS y5 s.name = false := by simpa using e2
    exact ⟨by rw [e2']; simp, rfl⟩
  · have e1' : (y4 == s.ballot) = true := by simpa [bne] using e1
    have e2' : eqS y5 s.name = true := by simpa using e2
    have e3' : s.fixed = false := by simpa using e3
    exact ⟨by rw [e1', e2', e3']; simp, rfl⟩
  · have e1' : (y4 == s.ballot) = true := by simpa [bne] using e1
    have e2' : eqS y5 s.name = true := by simpa using e2
    have e3' : s.fixed = true := by simpa using e3
    exact ⟨by rw [e1', e2', e3', e4, e5]; simp, rfl⟩
  · have e3' : s.fixed = true := by simpa using e3
    have e5' : (y10 == 4) = false := by simpa using e5
    exact ⟨by rw [e3', e4, e5']; simp, rfl⟩
  · have e3' : s.fixed = true := by simpa using e3
    have e6' : (y8 == s.mark) = false := by simpa [bne] using e6
    exact ⟨by rw [e3', e4, e6']; simp, rfl⟩
  · have e1' : (y4 == s.ballot) = true := by simpa [bne] using e1
    have e2' : eqS y5 s.name = true := by simpa using e2
    have e3' : s.fixed = true := by simpa using e3
    have e5' : (y1 == 17) = true := by simpa [bne] using e5
    have e6' : (y8 == s.mark) = true := by simpa [bne] using e6
    have e7' : s.value.pr = false := by simpa using e7
    exact ⟨by rw [e1', e2', e3', e4, e5', e6', e7']; simp, rfl⟩
  · have e1' : (y4 == s.ballot) = true := by simpa [bne] using e1
    have e2' : eqS y5 s.name = true := by simpa using e2
    have e3' : s.fixed = true := by simpa using e3
    have e5' : (y1 == 17) = true := by simpa [bne] using e5
    have e6' : (y8 == s.mark) = true := by simpa [bne] using e6
    have e7' : s.value.pr = true := by simpa using e7
    refine ⟨?_, rfl⟩
    rw [e1', e2', e3', e4, e5', e6', e7']
    cases y10 == 2 <;> cases y10 == 3 <;> cases y6 == s.value.at_ <;> cases y7 == s.value.ep <;> rfl
  · have e3' : s.fixed = true := by simpa using e3
    have e5' : (y1 == 17) = false := by simpa [bne] using e5
    exact ⟨by rw [e3', e4, e5']; simp, rfl⟩
  · have e1' : (y4 == s.ballot) = false := by simpa [bne] using e1
    exact ⟨by rw [e1']; simp, rfl⟩
theorem takes_eq {wait : List Int} {got : List (Int × Msg)} {G : List Msg} (h : Both got G) (m : Msg) : Rnd.takesB wait got m = takesG wait G m := by
  unfold Rnd.takesB takesG
  rw [← h.some (Rnd.from_ m)]
  cases mlook got (Rnd.from_ m) <;> rfl
theorem takes_new {wait : List Int} {G : List Msg} {m : Msg} (h : takesG wait G m = true) : Rnd.from_ m ∈ wait ∧ Rnd.from_ m ∉ froms G := by
  unfold takesG at h
  simp only [Bool.and_eq_true, Bool.not_eq_true', decide_eq_false_iff_not, decide_eq_true_eq] at h
  exact h
/-- One block alone. -/
def only (H : PHeap) (k : Nat) : PHeap := fun q => if q = k then H k else none
theorem only_sub {H H' : PHeap} {k : Nat} {t : TypeId} {l : List Value} (hb : Bx H k t l) (hb' : Bx H' k t l) : Sub (only H k) H' := ⟨fun q o hq => by
  unfold only at hq
  split at hq
  · rename_i e
    rw [e, show H' k = _ from hb', ← show H k = _ from hb]; exact hq
  · cases hq⟩
theorem only_bx {H : PHeap} {k : Nat} {t : TypeId} {l : List Value} (hb : Bx H k t l) : Bx (only H k) k t l := by
  unfold Bx only
  rw [if_pos rfl]; exact hb
/-- What a step leaves and says. -/
abbrev Did (F : PHeap) (k : Nat) (r : St × List Msg) (v : Value) (H' : PHeap) : Prop := ∃ b n c, v = .slice b n c ∧ RdL H' mE 13 b n r.2 ∧ AgS F H' k r.1
theorem take_ok {F H : PHeap} {k : Nat} {s : St} {m : Msg} (hA : AgS F H k s) (hm : OkM F m) : Triple Try.prog 11 #[.pointer (at0 k), Rnd.vM m] H (Did F k (s.take m)) := by
  obtain ⟨kr, hA⟩ := hA
  have hA' := hA
  obtain ⟨h1, h2, F1, got, x, h3, h4, h5, h6, h7, h8, h9⟩ := hA'
  have hnil : ∀ {H' : PHeap} {t : St}, AgS F H' k t → Did F k (t, []) (.slice none 0 0) H' := fun h => ⟨none, 0, 0, rfl, RdL.nil _ _ _, h⟩
  have hto := takes_ok (m := m) h8
  have htr := callR (Rnd.take_ok (m := m) h6) h8
  have hst : s.take m = if s.over then (s, []) else if s.takes m && takesG s.wait s.G m then (if allG s.wait (insG s.G m) then (s.got m).judge else (s.got m, [])) else (s, []) := rfl
  have hnew := fun h => takes_new (wait := s.wait) (G := s.G) (m := m) h
  have hinv : takesG s.wait s.G m = true → Inv F (s.got m) := fun h => ⟨h2.pok, h2.wt, fun y hy => by
      rcases Rnd.mem_ins.1 hy with hy | hy
      · exact h2.gin y hy
      · rw [hy]; show Rnd.from_ m ∈ ids s.p; rw [← h2.wt]; exact (hnew h).1, Rnd.ins_asc h2.asc (hnew h).2, fun y hy => by
      rcases Rnd.mem_ins.1 hy with hy | hy
      · exact h2.okG y hy
      · rw [hy]; exact hm, h2.okS⟩
  have hboth : takesG s.wait s.G m = true → Both (got ++ [(Rnd.from_ m, m)]) (insG s.G m) := fun h => h7.put (hnew h).2
  have hte := takes_eq (wait := s.wait) h7 m
  rw [hte] at htr
  generalize hsg : s.got m = sg at hst hinv
  have hsgG : sg.G = insG s.G m := by rw [← hsg]; rfl
  have hsgf : sg.fixed = s.fixed ∧ sg.asks = s.asks ∧ sg.wait = s.wait ∧ sg.tries = s.tries ∧ sg.holders = s.holders ∧ sg.acks = s.acks ∧ sg.said = s.said := by rw [← hsg]; exact ⟨rfl, rfl, rfl, rfl, rfl, rfl, rfl⟩
  have hcells : cellsA sg x = cellsA s x := by rw [← hsg]; rfl
  generalize s.takes m = tk at hto hst
  generalize takesG s.wait s.G m = tg at htr hst hinv hboth
  generalize insG s.G m = G' at hst hsgG hboth
  generalize s.take m = out at hst
  generalize Rnd.from_ m = fm at htr hboth
  have htr' : Triple Try.prog 26 #[.pointer (at0 kr), Rnd.vM m] H fun v H' => ∃ got', v = .bool tg ∧ got' = (if tg then got ++ [(fm, m)] else got) ∧ RdS F1 (rest H' [k]) kr s.asks s.wait got' s.tries ∧ Bx H' k tAg (cellsA s x) := htr.mono fun v H' ⟨G, ⟨e1, e2⟩, e3, e4⟩ => ⟨_, e1, rfl, e2.mono e3, e4⟩
  clear htr
  obtain ⟨y1, y2, y3, y4, y5, y6, y7, y8, y9, y10, ⟨ya, yb, yc, yl⟩, ⟨za, zb, zc, zl⟩, ⟨wa, wb, wc, wl⟩⟩ := m
  refine agTake.vc (at0 k) y1 y2 y3 y4 y5 y6 y7 y8 y9 y10 ya yb yc za zb zc wa wb wc H _ ⟨only H k, only_sub h8 h8, fun _ => ⟨obP k, obP k, s.over, (only_bx h8).fld (i := 10) rfl, fun e1 => hto.mono ?_, fun e1 => ?_⟩, fun e => by simp [at0] at e⟩
  · rintro _ H24 ⟨rfl, hH⟩
    rw [hH]
    rw [if_neg (by rw [e1]; decide)] at hst
    refine ⟨_, rfl, only_sub h8 h8, fun e2 => ⟨obP k, obP k, x.r, (only_bx h8).fld (i := 12) rfl, ?_⟩, fun e2 => ?_⟩
    · have e2' : tk = true := by simpa using e2
      rw [e2', Bool.true_and] at hst
      rw [h3]
      refine htr'.mono ?_
      rintro _ H28 ⟨got', rfl, hg', hR28, hb28⟩
      refine ⟨_, rfl, only_sub h8 hb28, fun e3 => ⟨obP k, obP k, x.r, (only_bx h8).fld (i := 12) rfl, ?_⟩, fun e3 => ?_⟩
      · have e3' : tg = true := by simpa using e3
        rw [e3', if_pos rfl] at hst
        rw [e3', if_pos rfl] at hg'
        have hB := hboth e3'
        rw [← hg'] at hB
        rw [h3]
        refine (callR (Rnd.all_ok hR28) hb28).mono ?_
        rintro _ H32 ⟨G32, ⟨rfl, hs32⟩, hG32, hb32⟩
        rw [all_eq hB]
        have hA32 : AgK F H32 k kr sg := ⟨h1, hinv e3', F1, got', x, h3, by rw [hsgf.1]; exact h4, h5, by rw [hsgf.2.1, hsgf.2.2.1, hsgf.2.2.2.1]; exact hR28.mono (hs32.trans hG32), by rw [hsgG]; exact hB, by rw [hcells]; exact hb32, ⟨by rw [hsgf.2.2.2.2.1]; exact h9.h, by rw [hsgf.2.2.2.2.2.1]; exact h9.a, by rw [hsgf.2.2.2.2.2.2]; exact h9.s⟩⟩
        refine ⟨_, rfl, fun e4 => ?_, fun e4 => ⟨obP k, obP k, x.j, hb32.fld (i := 13) rfl, ?_⟩⟩
        · have e4' : allG s.wait G' = false := by simpa using e4
          rw [e4', if_neg (by decide)] at hst
          rw [hst]
          exact hnil ⟨kr, hA32⟩
        · have e4' : allG s.wait G' = true := by simpa using e4
          rw [e4', if_pos rfl] at hst
          rw [h4, ← hsgf.1]
          refine judge_ok hA32 ?_
          rintro _ H' ⟨b, n, c, kr', rfl, hrd, hA', _⟩
          rw [hst]
          exact ⟨b, n, c, rfl, b, n, c, rfl, hrd, kr', hA'⟩
      · have e3' : tg = false := by simpa using e3
        rw [e3', if_neg (by decide)] at hst
        rw [e3', if_neg (by decide)] at hg'
        rw [hst]
        rw [hg'] at hR28
        exact hnil ⟨kr, h1, h2, F1, got, x, h3, h4, h5, hR28, h7, hb28, h9⟩
    · have e2' : tk = false := by simpa using e2
      rw [e2', Bool.false_and, if_neg (by decide)] at hst
      rw [hst]
      exact hnil ⟨kr, hA⟩
  · have e1' : s.over = true := by simpa using e1
    rw [e1', if_pos rfl] at hst
    rw [hst]
    exact hnil ⟨kr, hA⟩
theorem take_nil (H : PHeap) (m : Msg) : Triple Try.prog 11 #[.pointer none, Rnd.vM m] H fun v H' => v = .slice none 0 0 ∧ H' = H := by
  obtain ⟨y1, y2, y3, y4, y5, y6, y7, y8, y9, y10, ⟨ya, yb, yc, yl⟩, ⟨za, zb, zc, zl⟩, ⟨wa, wb, wc, wl⟩⟩ := m
  exact agTake.vc none y1 y2 y3 y4 y5 y6 y7 y8 y9 y10 ya yb yc za zb zc wa wb wc H _ ⟨H, Sub.refl _, fun e => (by simp at e), fun _ => ⟨rfl, rfl⟩⟩

/-! ### Time goes by -/
theorem again_eq {asks : List Msg} {got : List (Int × Msg)} {G : List Msg} (h : Both got G) : Rnd.again asks got = againG asks G := List.filter_congr fun x _ => by rw [h.some]
theorem info_ok {P : Program} {t : TypeId} (h : (match P.info? t with | some j => j.size != 0 | none => false) = true) : ∃ j, P.info? t = some j ∧ j.size ≠ 0 := by
  cases e : P.info? t with
  | none => rw [e] at h; cases h
  | some j => rw [e] at h; exact ⟨j, rfl, by simpa using h⟩
theorem tick_ok {F H : PHeap} {k : Nat} {s : St} (hA : AgS F H k s) : Triple Try.prog 10 #[.pointer (at0 k)] H (Did F k s.tick) := by
  obtain ⟨kr, hA⟩ := hA
  have hA0 := hA
  obtain ⟨h1, h2, F1, got, x, h3, h4, h5, h6, h7, h8, h9⟩ := hA0
  have hst : s.tick = if s.over then (s, []) else if s.judge.1.over || (s.judge.1.fixed != s.fixed) then s.judge else s.judge.1.late := rfl
  refine agTick.vc (at0 k) H _ ⟨fun _ => ⟨obP k, obP k, s.over, h8.fld (i := 10) rfl, fun e1 => ?_, fun e1 => ⟨obP k, obP k, x.r, h8.fld (i := 12) rfl, obP k, obP k, x.j, h8.fld (i := 13) rfl, ?_⟩⟩, fun e => by simp [at0] at e⟩
  · rw [hst, if_pos e1]
    exact ⟨none, 0, 0, rfl, RdL.nil _ _ _, kr, hA⟩
  · rw [if_neg (by rw [e1]; decide)] at hst
    rw [h4]
    refine judge_ok hA ?_
    rintro _ H6 ⟨b, n, c, kr', rfl, hrd, hA6, ⟨l0, hl0⟩, hmv⟩
    have hA6' := hA6
    obtain ⟨g1, g2, F2, got2, x2, g3, g4, g5, g6, g7, g8, g9⟩ := hA6'
    obtain ⟨l1, hl1⟩ := RdS_bx g6
    refine ⟨b, n, c, rfl, obP k, obP k, s.judge.1.over, g8.fld (i := 10) rfl, fun e2 => ⟨obP k, obP k, x2.r, g8.fld (i := 12) rfl, ?_⟩, fun e2 => ?_⟩
    · rw [g3, h3]
      obtain ⟨j, hj, hjs⟩ := info_ok (P := Try.prog) (t := tRd) (by kernel_rfl)
      refine ptr_neq (tp := 63) (te := tRd) (by kernel_rfl) hj hjs (hl1.sub (rest_sub _ _)) hl0 ⟨_, rfl, fun e3 => ?_, fun e3 => ⟨obP k, obP k, x2.r, g8.fld (i := 12) rfl, ?_⟩⟩
      · rw [hmv] at e3
        rw [e2, e3, Bool.or_true, if_pos rfl] at hst
        rw [hst]
        exact ⟨b, n, c, rfl, hrd, kr', hA6⟩
      · rw [hmv] at e3
        rw [e2, e3, Bool.or_false, if_neg (by decide)] at hst
        have hlt : s.judge.1.late = if s.judge.1.tries = 0 then (s.judge.1.end_ false, []) else ({ s.judge.1 with tries := IntKind.i64.wrap (s.judge.1.tries - 1) }, againG s.judge.1.asks s.judge.1.G) := rfl
        rw [hlt] at hst
        generalize s.judge.1 = u at *
        rw [g3]
        refine (callR (Rnd.tick_ok g6) g8).mono ?_
        rintro _ H16 ⟨G16, hcase, hG16, hb16⟩
        rcases hcase with ⟨ht, rfl, hR, hs16⟩ | ⟨ht, hR, b2, n2, c2, rfl, hrd2⟩
        · rw [if_pos ht] at hst
          refine ⟨_, _, _, _, rfl, fun _ => ?_, fun e => by cases e⟩
          refine (end_ok (⟨g1, g2, F2, got2, x2, g3, g4, g5, hR.mono hG16, g7, hb16, g9⟩ : AgK F H16 k kr' u)).mono ?_
          rintro _ H' ⟨rfl, hA'⟩
          rw [hst]
          exact ⟨none, 0, 0, rfl, none, 0, 0, rfl, RdL.nil _ _ _, kr', hA'⟩
        · rw [if_neg ht] at hst
          refine ⟨b2, n2, c2, _, rfl, fun e => (by cases e), fun _ => ?_⟩
          rw [hst]
          refine ⟨b2, n2, c2, rfl, ?_, kr', g1, ⟨g2.pok, g2.wt, g2.gin, g2.asc, g2.okG, g2.okS⟩, F2, got2, x2, g3, g4, g5, hR.mono hG16, g7, hb16, ⟨g9.h, g9.a, g9.s⟩⟩
          rw [← again_eq g7]
          exact hrd2.mono (hG16.trans (rest_sub _ _))
    · have e2' : s.judge.1.over = true := by simpa using e2
      rw [e2', Bool.true_or, if_pos rfl] at hst
      rw [hst]
      exact ⟨b, n, c, rfl, hrd, kr', hA6⟩
theorem tick_nil (H : PHeap) : Triple Try.prog 10 #[.pointer none] H fun v H' => v = .slice none 0 0 ∧ H' = H :=
  agTick.vc none H _ ⟨fun e => (by simp at e), fun _ => ⟨rfl, rfl⟩⟩

/-! ### What was agreed -/
/-- A result's cells. -/
abbrev cellsR (s : St) (x : AV) : List Value := [.bool s.ok, .bool s.fixed, .bool s.value.pr, vI s.value.at_, vI s.value.ep, vI s.value.sz, .slice x.h x.hn x.hc, .slice x.a x.an x.ac, .slice x.s x.sn x.sc]
abbrev zeroR : List Value := [.bool false, .bool false, .bool false, vI 0, vI 0, vI 0, .slice none 0 0, .slice none 0 0, .slice none 0 0]
theorem done_ok {F H : PHeap} {k : Nat} {s : St} (hA : AgS F H k s) : Triple Try.prog 12 #[.pointer (at0 k)] H fun v H' => H' = H ∧
    ((s.over = false ∧ v = .tuple #[.agg zeroR.toArray, .bool false]) ∨ (s.over = true ∧ ∃ x : AV, v = .tuple #[.agg (cellsR s x).toArray, .bool true] ∧ SlA H s x)) := by
  obtain ⟨kr, h1, h2, F1, got, x, h3, h4, h5, h6, h7, h8, h9⟩ := hA
  refine agDone.vc (at0 k) H _ ⟨fun _ => ⟨obP k, obP k, s.over, h8.fld (i := 10) rfl, fun e => ?_, fun e => ?_⟩, fun e => by simp [at0] at e⟩
  · exact ⟨rfl, .inl ⟨by simpa using e, rfl⟩⟩
  · have rd : Reads H (fldA (at0 k) 14) (cellsR s x) := h8.readsAt 14 fun j v hv => by
      match j, hv with
      | 0, hv => exact hv
      | 1, hv => exact hv
      | 2, hv => exact hv
      | 3, hv => exact hv
      | 4, hv => exact hv
      | 5, hv => exact hv
      | 6, hv => exact hv
      | 7, hv => exact hv
      | 8, hv => exact hv
      | j + 9, hv => simp at hv
    exact ⟨obP k, obP k, _, _, _, _, _, _, _, _, _, _, _, _, _, _, _, rd, rfl, .inr ⟨by simpa using e, x, rfl, h9.mono (h6.sub.trans (rest_sub _ _))⟩⟩
theorem done_nil (H : PHeap) : Triple Try.prog 12 #[.pointer none] H fun v H' => H' = H ∧ v = .tuple #[.agg zeroR.toArray, .bool false] :=
  agDone.vc none H _ ⟨fun e => (by simp at e), fun _ => ⟨rfl, rfl⟩⟩
end Go.Agr
