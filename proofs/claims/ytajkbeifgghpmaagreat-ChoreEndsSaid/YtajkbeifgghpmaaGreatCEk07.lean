/- The contracts of an agreement's methods: Take, Tick, Done. · What is to be shown of each function, in its normal form.  · What the laws of an agreement share: what is too much, and the document's example. · The document's agreement: its steps. · The document's agreement: what comes, and time; what is small; and its comparison. · An agreement's lists are short, and what it asks has no lists. · Plain law of texts that rise. · The contracts of the document's texts: the order, one more, whether lists are the same. · Plain law of texts: rising lists, one more, and a sorted list of distinct texts. · What is to be shown of each function, in its normal form.  · The contracts of names: whether a text is one, which is less; going through lists of texts. · The contracts of merging texts, and of the texts behind one. · What is to be shown of each function, in its normal form.  -/
import Derived.Test.YtajkbeifgghpmaaGreatProg
import Derived.Test.YtajkbeifgghpmaaGreatCEk06
set_option linter.unusedVariables false
set_option maxRecDepth 100000
namespace Go.Agr
open Go.Vx Go.Vc Go.Proofs Go.Pln Go.Stl
open Go.Rnd (takesG insG froms againG RdS Both OkM AscG)
theorem judge_ok {F H : PHeap} {k kr : Nat} {s : St} (h : AgK F H k kr s) {Q : Value → PHeap → Prop} (hQ : ∀ v H', Judged F k kr s s.judge v H' → Q v H') : CallY Tryz.prog (jv s.fixed) #[.pointer (at0 k)] H Q := by
  cases hf : s.fixed with
  | true => exact CallY.fn (by kernel_rfl) ((fixed_ok h hf).mono fun v H' hj => hQ v H' (by unfold St.judge; rw [hf, if_pos rfl]; exact hj))
  | false => exact CallY.fn (by kernel_rfl) ((asked_ok h hf).mono fun v H' hj => hQ v H' (by unfold St.judge; rw [hf, if_neg (by decide)]; exact hj))
theorem takes_ok {H : PHeap} {k : Nat} {s : St} {x : AV} {m : Msg} (hb : Bx H k tAg (cellsA s x)) : Triple Tryz.prog 80 #[.pointer (at0 k), Rnd.vM m] H fun v H' => v = .bool (s.takes m) ∧ H' = H := by
  obtain ⟨y1, y2, y3, y4, y5, y6, y7, y8, y9, y10, ⟨ya, yb, yc, yl⟩, ⟨za, zb, zc, zl⟩, ⟨wa, wb, wc, wl⟩⟩ := m
  have ht : s.takes (y1, y2, y3, y4, y5, y6, y7, y8, y9, y10, ⟨ya, yb, yc, yl⟩, ⟨za, zb, zc, zl⟩, ⟨wa, wb, wc, wl⟩) = (y4 == s.ballot && eqS y5 s.name && (if s.fixed then (if y1 == 16 then y10 == 4 && y8 == s.mark else y1 == 17 && y8 == s.mark && (if s.value.pr then (y10 == 2 || y10 == 3) && y6 == s.value.at_ && y7 == s.value.ep else y10 == 4)) else y1 == 14)) := rfl
  rw [ht]
  have rv : Reads H (fldA (at0 k) 16) s.value.c := hb.readsAt 16 fun j v hv => by
    match j, hv with
    | 0, hv => exact hv
    | 1, hv => exact hv
    | 2, hv => exact hv
    | 3, hv => exact hv
    | j + 4, hv => simp at hv
  refine agTakes.vc (at0 k) y1 y2 y3 y4 y5 y6 y7 y8 y9 y10 ya yb yc za zb zc wa wb wc H _ ⟨H, Sub.refl _, obP k, obP k, s.ballot, hb.fld (i := 6) rfl, fun e1 => ⟨obP k, obP k, s.name, hb.fld (i := 7) rfl, fun e2 => ?_, fun e2 => ⟨obP k, obP k, obF k 14, _, _, _, _, rv, obP k, obP k, obF k 14, s.fixed, hb.fld (i := 15) rfl, fun e3 => ?_, fun e3 => ⟨fun e4 => ⟨H, Sub.refl _, fun e5 => ⟨obP k, obP k, s.mark, hb.fld (i := 11) rfl, ?_⟩, fun e5 => ?_⟩, fun e4 => ⟨H, Sub.refl _, fun e5 => ⟨obP k, obP k, s.mark, hb.fld (i := 11) rfl, fun e6 => ?_, fun e6 => ⟨fun e7 => ?_, fun e7 => ?_⟩⟩, fun e5 => ?_⟩⟩⟩⟩, fun e1 => ?_⟩
  · have e2' : eqS y5 s.name = false := by simpa using e2
    exact ⟨by rw [e2']; simp, rfl⟩
  · have e1' : (y4 == s.ballot) = true := by simpa [bne] using e1
    have e2' : eqS y5 s.name = true := by simpa using e2
    have e3' : s.fixed = false := by simpa using e3
    exact ⟨by rw [e1', e2', e3']; simp, rfl⟩
  · have e1' : (y4 == s.ballot) = true := by simpa [bne] using e1
    have e2' : eqS y5 s.name = true := by simpa using e2
    have e3' : s.fixed = true := by simpa using e3
    exact ⟨by rw [e1', e2', e3', e4, e5]; simp, rfl⟩
  · have e3' : s.fixed = true := by simpa using e3
    have e5' : (y10 == 4) = false := by simpa using e5
    exact ⟨by rw [e3', e4, e5']; simp, rfl⟩
  · have e3' : s.fixed = true := by simpa using e3
    have e6' : (y8 == s.mark) = false := by simpa [bne] using e6
    exact ⟨by rw [e3', e4, e6']; simp, rfl⟩
  · have e1' : (y4 == s.ballot) = true := by simpa [bne] using e1
    have e2' : eqS y5 s.name = true := by simpa using e2
    have e3' : s.fixed = true := by simpa using e3
    have e5' : (y1 == 17) = true := by simpa [bne] using e5
    have e6' : (y8 == s.mark) = true := by simpa [bne] using e6
    have e7' : s.value.pr = false := by simpa using e7
    exact ⟨by rw [e1', e2', e3', e4, e5', e6', e7']; simp, rfl⟩
  · have e1' : (y4 == s.ballot) = true := by simpa [bne] using e1
    have e2' : eqS y5 s.name = true := by simpa using e2
    have e3' : s.fixed = true := by simpa using e3
    have e5' : (y1 == 17) = true := by simpa [bne] using e5
    have e6' : (y8 == s.mark) = true := by simpa [bne] using e6
    have e7' : s.value.pr = true := by simpa using e7
    refine ⟨?_, rfl⟩
    rw [e1', e2', e3', e4, e5', e6', e7']
    cases y10 == 2 <;> cases y10 == 3 <;> cases y6 == s.value.at_ <;> cases y7 == s.value.ep <;> rfl
  · have e3' : s.fixed = true := by simpa using e3
    have e5' : (y1 == 17) = false := by simpa [bne] using e5
    exact ⟨by rw [e3', e4, e5']; simp, rfl⟩
  · have e1' : (y4 == s.ballot) = false := by simpa [bne] using e1
    exact ⟨by rw [e1']; simp, rfl⟩
theorem takes_eq {wait : List Int} {got : List (Int × Msg)} {G : List Msg} (h : Both got G) (m : Msg) : Rnd.takesB wait got m = takesG wait G m := by
  unfold Rnd.takesB takesG
  rw [← h.some (Rnd.from_ m)]
  cases mlook got (Rnd.from_ m) <;> rfl
theorem takes_new {wait : List Int} {G : List Msg} {m : Msg} (h : takesG wait G m = true) : Rnd.from_ m ∈ wait ∧ Rnd.from_ m ∉ froms G := by
  unfold takesG at h
  simp only [Bool.and_eq_true, Bool.not_eq_true', decide_eq_false_iff_not, decide_eq_true_eq] at h
  exact h
/-- One block alone. -/
def only (H : PHeap) (k : Nat) : PHeap := fun q => if q = k then H k else none
theorem only_sub {H H' : PHeap} {k : Nat} {t : TypeId} {l : List Value} (hb : Bx H k t l) (hb' : Bx H' k t l) : Sub (only H k) H' := ⟨fun q o hq => by
  unfold only at hq
  split at hq
  · rename_i e
    rw [e, show H' k = _ from hb', ← show H k = _ from hb]; exact hq
  · cases hq⟩
theorem only_bx {H : PHeap} {k : Nat} {t : TypeId} {l : List Value} (hb : Bx H k t l) : Bx (only H k) k t l := by
  unfold Bx only
  rw [if_pos rfl]; exact hb
/-- What a step leaves and says. -/
abbrev Did (F : PHeap) (k : Nat) (r : St × List Msg) (v : Value) (H' : PHeap) : Prop := ∃ b n c, v = .slice b n c ∧ RdL H' mE 13 b n r.2 ∧ AgS F H' k r.1
/-- What it says at its end is nothing. -/
abbrev Did2 (F : PHeap) (k : Nat) (r : St × List Msg) (v : Value) (H' : PHeap) : Prop := Did F k r v H' ∧ (r.1.over = true → v = .slice none 0 0)
theorem take_ok2 {F H : PHeap} {k : Nat} {s : St} {m : Msg} (hA : AgS F H k s) (hm : OkM F m) : Triple Tryz.prog 41 #[.pointer (at0 k), Rnd.vM m] H (Did2 F k (s.take m)) := by
  obtain ⟨kr, hA⟩ := hA
  have hA' := hA
  obtain ⟨h1, h2, F1, got, x, h3, h4, h5, h6, h7, h8, h9⟩ := hA'
  have hnil : ∀ {H' : PHeap} {t : St}, AgS F H' k t → Did2 F k (t, []) (.slice none 0 0) H' := fun h => ⟨⟨none, 0, 0, rfl, RdL.nil _ _ _, h⟩, fun _ => rfl⟩
  have hto := takes_ok (m := m) h8
  have htr := callR (Rnd.take_ok (m := m) h6) h8
  have hst : s.take m = if s.over then (s, []) else if s.takes m && takesG s.wait s.G m then (if allG s.wait (insG s.G m) then (s.got m).judge else (s.got m, [])) else (s, []) := rfl
  have hnew := fun h => takes_new (wait := s.wait) (G := s.G) (m := m) h
  have hinv : takesG s.wait s.G m = true → Inv F (s.got m) := fun h => ⟨h2.pok, h2.wt, fun y hy => by
      rcases Rnd.mem_ins.1 hy with hy | hy
      · exact h2.gin y hy
      · rw [hy]; show Rnd.from_ m ∈ ids s.p; rw [← h2.wt]; exact (hnew h).1, Rnd.ins_asc h2.asc (hnew h).2, fun y hy => by
      rcases Rnd.mem_ins.1 hy with hy | hy
      · exact h2.okG y hy
      · rw [hy]; exact hm, h2.okS⟩
  have hboth : takesG s.wait s.G m = true → Both (got ++ [(Rnd.from_ m, m)]) (insG s.G m) := fun h => h7.put (hnew h).2
  have hte := takes_eq (wait := s.wait) h7 m
  rw [hte] at htr
  generalize hsg : s.got m = sg at hst hinv
  have hsgG : sg.G = insG s.G m := by rw [← hsg]; rfl
  have hsgf : sg.fixed = s.fixed ∧ sg.asks = s.asks ∧ sg.wait = s.wait ∧ sg.tries = s.tries ∧ sg.holders = s.holders ∧ sg.acks = s.acks ∧ sg.said = s.said := by rw [← hsg]; exact ⟨rfl, rfl, rfl, rfl, rfl, rfl, rfl⟩
  have hcells : cellsA sg x = cellsA s x := by rw [← hsg]; rfl
  have hsgo : sg.over = s.over := by rw [← hsg]; rfl
  generalize s.takes m = tk at hto hst
  generalize takesG s.wait s.G m = tg at htr hst hinv hboth
  generalize insG s.G m = G' at hst hsgG hboth
  generalize s.take m = out at hst
  generalize Rnd.from_ m = fm at htr hboth
  have htr' : Triple Tryz.prog 44 #[.pointer (at0 kr), Rnd.vM m] H fun v H' => ∃ got', v = .bool tg ∧ got' = (if tg then got ++ [(fm, m)] else got) ∧ RdS F1 (rest H' [k]) kr s.asks s.wait got' s.tries ∧ Bx H' k tAg (cellsA s x) := htr.mono fun v H' ⟨G, ⟨e1, e2⟩, e3, e4⟩ => ⟨_, e1, rfl, e2.mono e3, e4⟩
  clear htr
  obtain ⟨y1, y2, y3, y4, y5, y6, y7, y8, y9, y10, ⟨ya, yb, yc, yl⟩, ⟨za, zb, zc, zl⟩, ⟨wa, wb, wc, wl⟩⟩ := m
  refine agTake.vc (at0 k) y1 y2 y3 y4 y5 y6 y7 y8 y9 y10 ya yb yc za zb zc wa wb wc H _ ⟨only H k, only_sub h8 h8, fun _ => ⟨obP k, obP k, s.over, (only_bx h8).fld (i := 10) rfl, fun e1 => hto.mono ?_, fun e1 => ?_⟩, fun e => by simp [at0] at e⟩
  · rintro _ H24 ⟨rfl, hH⟩
    rw [hH]
    rw [if_neg (by rw [e1]; decide)] at hst
    refine ⟨_, rfl, only_sub h8 h8, fun e2 => ⟨obP k, obP k, x.r, (only_bx h8).fld (i := 12) rfl, ?_⟩, fun e2 => ?_⟩
    · have e2' : tk = true := by simpa using e2
      rw [e2', Bool.true_and] at hst
      rw [h3]
      refine htr'.mono ?_
      rintro _ H28 ⟨got', rfl, hg', hR28, hb28⟩
      refine ⟨_, rfl, only_sub h8 hb28, fun e3 => ⟨obP k, obP k, x.r, (only_bx h8).fld (i := 12) rfl, ?_⟩, fun e3 => ?_⟩
      · have e3' : tg = true := by simpa using e3
        rw [e3', if_pos rfl] at hst
        rw [e3', if_pos rfl] at hg'
        have hB := hboth e3'
        rw [← hg'] at hB
        rw [h3]
        refine (callR (Rnd.all_ok hR28) hb28).mono ?_
        rintro _ H32 ⟨G32, ⟨rfl, hs32⟩, hG32, hb32⟩
        rw [all_eq hB]
        have hA32 : AgK F H32 k kr sg := ⟨h1, hinv e3', F1, got', x, h3, by rw [hsgf.1]; exact h4, h5, by rw [hsgf.2.1, hsgf.2.2.1, hsgf.2.2.2.1]; exact hR28.mono (hs32.trans hG32), by rw [hsgG]; exact hB, by rw [hcells]; exact hb32, ⟨by rw [hsgf.2.2.2.2.1]; exact h9.h, by rw [hsgf.2.2.2.2.2.1]; exact h9.a, by rw [hsgf.2.2.2.2.2.2]; exact h9.s⟩⟩
        refine ⟨_, rfl, fun e4 => ?_, fun e4 => ⟨obP k, obP k, x.j, hb32.fld (i := 13) rfl, ?_⟩⟩
        · have e4' : allG s.wait G' = false := by simpa using e4
          rw [e4', if_neg (by decide)] at hst
          rw [hst]
          exact hnil ⟨kr, hA32⟩
        · have e4' : allG s.wait G' = true := by simpa using e4
          rw [e4', if_pos rfl] at hst
          rw [h4, ← hsgf.1]
          refine judge_ok hA32 ?_
          rintro _ H' ⟨b, n, c, kr', rfl, hrd, hA', _, hno⟩
          rw [hst]
          exact ⟨b, n, c, rfl, ⟨b, n, c, rfl, hrd, kr', hA'⟩, fun h => hno (by rw [hsgo]; simpa using e1) h⟩
      · have e3' : tg = false := by simpa using e3
        rw [e3', if_neg (by decide)] at hst
        rw [e3', if_neg (by decide)] at hg'
        rw [hst]
        rw [hg'] at hR28
        exact hnil ⟨kr, h1, h2, F1, got, x, h3, h4, h5, hR28, h7, hb28, h9⟩
    · have e2' : tk = false := by simpa using e2
      rw [e2', Bool.false_and, if_neg (by decide)] at hst
      rw [hst]
      exact hnil ⟨kr, hA⟩
  · have e1' : s.over = true := by simpa using e1
    rw [e1', if_pos rfl] at hst
    rw [hst]
    exact hnil ⟨kr, hA⟩
theorem take_ok {F H : PHeap} {k : Nat} {s : St} {m : Msg} (hA : AgS F H k s) (hm : OkM F m) : Triple Tryz.prog 41 #[.pointer (at0 k), Rnd.vM m] H (Did F k (s.take m)) := (take_ok2 hA hm).mono fun _ _ h => h.1
theorem again_eq {asks : List Msg} {got : List (Int × Msg)} {G : List Msg} (h : Both got G) : Rnd.again asks got = againG asks G := List.filter_congr fun x _ => by rw [h.some]
theorem info_ok {P : Program} {t : TypeId} (h : (match P.info? t with | some j => j.size != 0 | none => false) = true) : ∃ j, P.info? t = some j ∧ j.size ≠ 0 := by
  cases e : P.info? t with
  | none => rw [e] at h; cases h
  | some j => rw [e] at h; exact ⟨j, rfl, by simpa using h⟩
theorem tick_ok2 {F H : PHeap} {k : Nat} {s : St} (hA : AgS F H k s) : Triple Tryz.prog 33 #[.pointer (at0 k)] H (Did2 F k s.tick) := by
  obtain ⟨kr, hA⟩ := hA
  have hA0 := hA
  obtain ⟨h1, h2, F1, got, x, h3, h4, h5, h6, h7, h8, h9⟩ := hA0
  have hst : s.tick = if s.over then (s, []) else if s.judge.1.over || (s.judge.1.fixed != s.fixed) then s.judge else s.judge.1.late := rfl
  refine agTick.vc (at0 k) H _ ⟨fun _ => ⟨obP k, obP k, s.over, h8.fld (i := 10) rfl, fun e1 => ?_, fun e1 => ⟨obP k, obP k, x.r, h8.fld (i := 12) rfl, obP k, obP k, x.j, h8.fld (i := 13) rfl, ?_⟩⟩, fun e => by simp [at0] at e⟩
  · rw [hst, if_pos e1]
    exact ⟨⟨none, 0, 0, rfl, RdL.nil _ _ _, kr, hA⟩, fun _ => rfl⟩
  · rw [if_neg (by rw [e1]; decide)] at hst
    rw [h4]
    refine judge_ok hA ?_
    rintro _ H6 ⟨b, n, c, kr', rfl, hrd, hA6, ⟨⟨l0, hl0⟩, hmv⟩, hno⟩
    have hA6' := hA6
    obtain ⟨g1, g2, F2, got2, x2, g3, g4, g5, g6, g7, g8, g9⟩ := hA6'
    obtain ⟨l1, hl1⟩ := RdS_bx g6
    refine ⟨b, n, c, rfl, obP k, obP k, s.judge.1.over, g8.fld (i := 10) rfl, fun e2 => ⟨obP k, obP k, x2.r, g8.fld (i := 12) rfl, ?_⟩, fun e2 => ?_⟩
    · rw [g3, h3]
      obtain ⟨j, hj, hjs⟩ := info_ok (P := Tryz.prog) (t := tRd) (by kernel_rfl)
      refine ptr_neq (tp := 66) (te := tRd) (by kernel_rfl) hj hjs (hl1.sub (rest_sub _ _)) hl0 ⟨_, rfl, fun e3 => ?_, fun e3 => ⟨obP k, obP k, x2.r, g8.fld (i := 12) rfl, ?_⟩⟩
      · rw [hmv] at e3
        rw [e2, e3, Bool.or_true, if_pos rfl] at hst
        rw [hst]
        exact ⟨⟨b, n, c, rfl, hrd, kr', hA6⟩, hno e1⟩
      · rw [hmv] at e3
        rw [e2, e3, Bool.or_false, if_neg (by decide)] at hst
        have hlt : s.judge.1.late = if s.judge.1.tries = 0 then (s.judge.1.end_ false, []) else ({ s.judge.1 with tries := IntKind.i64.wrap (s.judge.1.tries - 1) }, againG s.judge.1.asks s.judge.1.G) := rfl
        rw [hlt] at hst
        generalize s.judge.1 = u at *
        rw [g3]
        refine (callR (Rnd.tick_ok g6) g8).mono ?_
        rintro _ H16 ⟨G16, hcase, hG16, hb16⟩
        rcases hcase with ⟨ht, rfl, hR, hs16⟩ | ⟨ht, hR, b2, n2, c2, rfl, hrd2⟩
        · rw [if_pos ht] at hst
          refine ⟨_, _, _, _, rfl, fun _ => ?_, fun e => by cases e⟩
          refine (end_ok (⟨g1, g2, F2, got2, x2, g3, g4, g5, hR.mono hG16, g7, hb16, g9⟩ : AgK F H16 k kr' u)).mono ?_
          rintro _ H' ⟨rfl, hA'⟩
          rw [hst]
          exact ⟨none, 0, 0, rfl, ⟨none, 0, 0, rfl, RdL.nil _ _ _, kr', hA'⟩, fun _ => rfl⟩
        · rw [if_neg ht] at hst
          refine ⟨b2, n2, c2, _, rfl, fun e => (by cases e), fun _ => ?_⟩
          rw [hst]
          refine ⟨⟨b2, n2, c2, rfl, ?_, kr', g1, ⟨g2.pok, g2.wt, g2.gin, g2.asc, g2.okG, g2.okS⟩, F2, got2, x2, g3, g4, g5, hR.mono hG16, g7, hb16, ⟨g9.h, g9.a, g9.s⟩⟩, fun h => absurd (e2.symm.trans h) (by decide)⟩
          rw [← again_eq g7]
          exact hrd2.mono (hG16.trans (rest_sub _ _))
    · have e2' : s.judge.1.over = true := by simpa using e2
      rw [e2', Bool.true_or, if_pos rfl] at hst
      rw [hst]
      exact ⟨⟨b, n, c, rfl, hrd, kr', hA6⟩, hno e1⟩
theorem tick_ok {F H : PHeap} {k : Nat} {s : St} (hA : AgS F H k s) : Triple Tryz.prog 33 #[.pointer (at0 k)] H (Did F k s.tick) := (tick_ok2 hA).mono fun _ _ h => h.1
/-- A result's cells. -/
abbrev cellsR (s : St) (x : AV) : List Value := [.bool s.ok, .bool s.fixed, .bool s.value.pr, vI s.value.at_, vI s.value.ep, vI s.value.sz, .slice x.h x.hn x.hc, .slice x.a x.an x.ac, .slice x.s x.sn x.sc]
abbrev zeroR : List Value := [.bool false, .bool false, .bool false, vI 0, vI 0, vI 0, .slice none 0 0, .slice none 0 0, .slice none 0 0]
theorem done_ok {F H : PHeap} {k : Nat} {s : St} (hA : AgS F H k s) : Triple Tryz.prog 68 #[.pointer (at0 k)] H fun v H' => H' = H ∧
    ((s.over = false ∧ v = .tuple #[.agg zeroR.toArray, .bool false]) ∨ (s.over = true ∧ ∃ x : AV, v = .tuple #[.agg (cellsR s x).toArray, .bool true] ∧ SlA H s x)) := by
  obtain ⟨kr, h1, h2, F1, got, x, h3, h4, h5, h6, h7, h8, h9⟩ := hA
  refine agDone.vc (at0 k) H _ ⟨fun _ => ⟨obP k, obP k, s.over, h8.fld (i := 10) rfl, fun e => ?_, fun e => ?_⟩, fun e => by simp [at0] at e⟩
  · exact ⟨rfl, .inl ⟨by simpa using e, rfl⟩⟩
  · have rd : Reads H (fldA (at0 k) 14) (cellsR s x) := h8.readsAt 14 fun j v hv => by
      match j, hv with
      | 0, hv => exact hv
      | 1, hv => exact hv
      | 2, hv => exact hv
      | 3, hv => exact hv
      | 4, hv => exact hv
      | 5, hv => exact hv
      | 6, hv => exact hv
      | 7, hv => exact hv
      | 8, hv => exact hv
      | j + 9, hv => simp at hv
    exact ⟨obP k, obP k, _, _, _, _, _, _, _, _, _, _, _, _, _, _, _, rd, rfl, .inr ⟨by simpa using e, x, rfl, h9.mono (h6.sub.trans (rest_sub _ _))⟩⟩
end Go.Agr
namespace Go.Vc
open Go.Vx Go
def lawFar.cx : Cx := ⟨[], [(2, [7], [])], [], []⟩
def l8Some.cx : Cx := ⟨[], [], [], []⟩
theorem lawFar.vc (a1 : Option Addr) (k2 : Nat) (k3 : Nat) (H : PHeap) (Q : Value → PHeap → Prop)
 (h : ∃ (R4 : Rl) (M5 : Mu),
 R4 [Value.int IntKind.i64 0] H ∧
 ∀ (n6 : Int) (H7 : PHeap),
 R4 [Value.int IntKind.i64 n6] H7 →
 (decide (n6 < (↑k2 : Int)) = true →
 Ob (a1 ≠ none ∧ 0 ≤ n6 ∧ n6 < (↑k2 : Int)) ∧
 ∃ n8 n9 n10 n11 s12 n13 n14 n15 n16 n17 a18 k19 k20 a21 k22 k23 a24 k25 k26,
 Reads H7 (elemA a1 n6 13)
 [Value.int IntKind.i64 n8, Value.int IntKind.i64 n9, Value.int IntKind.i64 n10, Value.int IntKind.i64 n11, Value.string s12, Value.int IntKind.i64 n13, Value.int IntKind.i64 n14,
 Value.int IntKind.i64 n15, Value.int IntKind.i64 n16, Value.int IntKind.i64 n17, Value.slice a18 k19 k20, Value.slice a21 k22 k23, Value.slice a24 k25 k26] ∧
 Triple Proofs.Tryz.prog 51
 #[Value.agg
 #[Value.int IntKind.i64 n8, Value.int IntKind.i64 n9, Value.int IntKind.i64 n10, Value.int IntKind.i64 n11, Value.string s12, Value.int IntKind.i64 n13,
 Value.int IntKind.i64 n14, Value.int IntKind.i64 n15, Value.int IntKind.i64 n16, Value.int IntKind.i64 n17, Value.slice a18 k19 k20, Value.slice a21 k22 k23,
 Value.slice a24 k25 k26]]
 H7 fun v27 H28 =>
 ∃ b29,
 v27 = Value.bool b29 ∧
 (b29 = true → Q (Value.bool true) H28) ∧
 (b29 = false →
 R4 [Value.int IntKind.i64 (IntKind.i64.wrap (n6 + 1))] H28 ∧ Less (M5 [Value.int IntKind.i64 (IntKind.i64.wrap (n6 + 1))] H28) (M5 [Value.int IntKind.i64 n6] H7))) ∧
 (decide (n6 < (↑k2 : Int)) = false → Q (Value.bool (decide ((↑k2 : Int) > 200))) H7)) :
 Triple Go.Proofs.Tryz.prog 17 ([Value.slice a1 k2 k3]).toArray H Q :=
 Triple.of_vc lawFar.cx (by kernel_rfl) h
theorem l8Some.vc (H : PHeap) (Q : Value → PHeap → Prop)
 (h : Q (Value.agg #[Value.int IntKind.i64 4, Value.int IntKind.i64 1, Value.int IntKind.i64 2, Value.int IntKind.i64 3, Value.int IntKind.i64 16, Value.int IntKind.i64 3]) H) :
 Triple Go.Proofs.Tryz.prog 18 ([]).toArray H Q :=
 Triple.of_vc l8Some.cx (by kernel_rfl) h
end Go.Vc
namespace Go.Agr
open Go.Vx Go.Vc Go.Proofs Go.Pln Go.Stl
open Go.Rnd (takesG insG froms againG RdS Both OkM AscG)
/-- What is known beside an agreement grows. -/
theorem AgK.ext {F F' H H' : PHeap} {k kr : Nat} {s : St} (h : AgK F H k kr s) (hs : Sub H H') (hF : Sub F F') (hF' : Sub F' H') (hk : F' k = none) (hn : ∀ q o, F' q = some o → F q = some o ∨ H q = none) : AgK F' H' k kr s := by
  obtain ⟨h1, h2, F1, got, x, h3, h4, h5, h6, h7, h8, h9⟩ := h
  refine ⟨hk, ⟨h2.pok, h2.wt, h2.gin, h2.asc, fun m hm => (h2.okG m hm).mono hF, fun m hm => (h2.okS m hm).mono hF⟩, grow F1 (rest H [k]) (rest H' [k]), got, x, h3, h4, ?_, RdS_grow h6 (rest_mono hs), h7, h8.sub hs, h9.mono (grow_le h6.sub)⟩
  refine ⟨fun q o hq => ?_⟩
  rcases hn q o hq with h | h
  · exact (h5.trans (grow_le h6.sub)).le q o h
  · have hqk : q ≠ k := fun e => by rw [e, hk] at hq; cases hq
    rw [grow_at (by rw [rest_at (by simpa using hqk)]; exact h), rest_at (by simpa using hqk)]
    exact hF'.le q o hq
structure MsgR (H : PHeap) (m : Msg) : Prop where
  who : RdL H iE 1 m.2.2.2.2.2.2.2.2.2.2.1.oa m.2.2.2.2.2.2.2.2.2.2.1.n m.2.2.2.2.2.2.2.2.2.2.1.l
  names : RdL H strE 1 m.2.2.2.2.2.2.2.2.2.2.2.1.oa m.2.2.2.2.2.2.2.2.2.2.2.1.n m.2.2.2.2.2.2.2.2.2.2.2.1.l
  data : RdL H Rnd.bE 1 m.2.2.2.2.2.2.2.2.2.2.2.2.oa m.2.2.2.2.2.2.2.2.2.2.2.2.n m.2.2.2.2.2.2.2.2.2.2.2.2.l
end Go.Agr
namespace Go.Agr
open Go.Vx Go.Vc Go.Proofs Go.Pln Go.Stl
open Go.Rnd (takesG insG froms againG RdR RV OkM AscG)
theorem Inv.mono {F F' : PHeap} {s : St} (h : Inv F s) (hs : Sub F F') : Inv F' s := ⟨h.pok, h.wt, h.gin, h.asc, fun m hm => (h.okG m hm).mono hs, fun m hm => (h.okS m hm).mono hs⟩
theorem Inv.wl {F : PHeap} {s : St} (h : Inv F s) : s.wait.length ≤ 256 := by
  rw [h.wt, ids_len]
  have := (Plan.ok_iff.1 h.pok).n2
  omega
end Go.Agr
namespace Go.Agr
open Go.Vx Go.Vc Go.Proofs Go.Pln Go.Stl
open Go.Rnd (takesG insG froms againG RdR RV OkM AscG)
theorem Inv.got {F : PHeap} {s : St} {m : Msg} (h : Inv F s) (hm : OkM F m) (ht : takesG s.wait s.G m = true) : Inv F (s.got m) := by
  obtain ⟨n1, n2⟩ := takes_new ht
  refine ⟨h.pok, h.wt, fun y hy => ?_, Rnd.ins_asc h.asc n2, fun y hy => ?_, h.okS⟩
  · rcases Rnd.mem_ins.1 hy with hy | hy
    · exact h.gin y hy
    · rw [hy]; show Rnd.from_ m ∈ ids s.p; rw [← h.wt]; exact n1
  · rcases Rnd.mem_ins.1 hy with hy | hy
    · exact h.okG y hy
    · rw [hy]; exact hm
end Go.Agr
namespace Go.Agr
open Go.Vx Go.Vc Go.Proofs Go.Pln Go.Stl
open Go.Rnd (takesG insG froms againG RdR RV OkM AscG)
/-- A message without lists. -/
structure Bare (m : Msg) : Prop where
  who : m.2.2.2.2.2.2.2.2.2.2.1 = ⟨none, 0, 0, []⟩
  names : m.2.2.2.2.2.2.2.2.2.2.2.1 = ⟨none, 0, 0, []⟩
  data : m.2.2.2.2.2.2.2.2.2.2.2.2 = ⟨none, 0, 0, []⟩
theorem Bare.ok {m : Msg} (h : Bare m) (H : PHeap) : OkM H m := by
  obtain ⟨y1, y2, y3, y4, y5, y6, y7, y8, y9, y10, w, n, d⟩ := m
  obtain ⟨h1, h2, h3⟩ := h
  dsimp only at h1 h2 h3
  subst h1 h2 h3
  exact ⟨RdL.nil _ _ _, RdL.nil _ _ _, RdL.nil _ _ _, by simp, by simp, by simp⟩
structure Sml (s : St) : Prop where
  said : s.said.length ≤ 1000
  holders : s.holders.length ≤ 1000
  acks : s.acks.length ≤ 1000
  asks : s.asks.length ≤ 1000
  bare : ∀ m ∈ s.asks, Bare m
theorem bare_all {p : Plan} {b : Int} {nm : ByteArray} {m : Msg} (h : Bare m) : ∀ x ∈ askAll p b nm m, Bare x := fun x hx => by
  obtain ⟨i, _, rfl⟩ := List.mem_map.1 hx
  exact ⟨h.who, h.names, h.data⟩
theorem askAll_len (p : Plan) (b : Int) (nm : ByteArray) (m : Msg) : (askAll p b nm m).length = p.n.toNat := by unfold askAll; rw [List.length_map, ids_len]
theorem bare_fix (k : Int) (v : Val) : Bare (mfix k v) := ⟨rfl, rfl, rfl⟩
theorem bare_ask : Bare mask := ⟨rfl, rfl, rfl⟩
theorem pn_le {p : Plan} (h : p.ok = true) : p.n.toNat ≤ 256 := by
  have := (Plan.ok_iff.1 h).n2
  omega
theorem Sml.ask {s : St} {m : Msg} (hp : s.p.ok = true) (h1 : s.said.length ≤ 1000) (h2 : s.holders.length ≤ 1000) (h3 : s.acks.length ≤ 1000) (hm : Bare m) : Sml (s.ask m).1 ∧ (∀ x ∈ (s.ask m).2, Bare x) ∧ (s.ask m).2.length ≤ 1000 := by
  have hl := askAll_len s.p s.ballot s.name m
  have := pn_le hp
  exact ⟨⟨h1, h2, h3, by show (askAll s.p s.ballot s.name m).length ≤ 1000; omega, bare_all hm⟩, bare_all hm, by show (askAll s.p s.ballot s.name m).length ≤ 1000; omega⟩
/-- What a step leaves is short. -/
structure SmlR (r : St × List Msg) : Prop where
  s : Sml r.1
  bare : ∀ m ∈ r.2, Bare m
  len : r.2.length ≤ 1000
theorem SmlR.nil {s : St} (h : Sml s) : SmlR (s, []) := ⟨h, fun m hm => (by cases hm), Nat.zero_le _⟩
theorem Sml.fix {s : St} {v : Val} (hp : s.p.ok = true) (h1 : s.said.length ≤ 1000) (h2 : s.holders.length ≤ 1000) (h3 : s.acks.length ≤ 1000) : SmlR (s.fix v) :=
  let ⟨a, b, c⟩ := Sml.ask (s := { s with fixed := true, value := v }) (m := mfix s.mark v) hp h1 h2 h3 (bare_fix _ _)
  ⟨a, b, c⟩
theorem verd_len (p : Plan) (L : List Msg) : (verd p L).holders.length ≤ L.length := by
  unfold verd
  split
  · exact Nat.le_trans (hold_len _ _) (List.length_filter_le ..)
  · exact Nat.zero_le _
theorem Sml.judge {s : St} (h : Sml s) (hp : s.p.ok = true) (hg : s.G.length ≤ 1000) : SmlR s.judge := by
  have hv := verd_len s.p s.G
  have ha : (ackL s.G).length ≤ s.G.length := List.length_filter_le ..
  have hh := hold_len s.value (ackL s.G)
  have hc : Sml s.counted := ⟨h.said, by show (holdL s.value (ackL s.G)).length ≤ 1000; omega, by show ((ackL s.G).map from_).length ≤ 1000; rw [List.length_map]; omega, h.asks, h.bare⟩
  unfold St.judge
  split
  · unfold St.judge1
    split
    · exact .nil ⟨hc.said, hc.holders, hc.acks, hc.asks, hc.bare⟩
    · exact .nil hc
  · unfold St.judge0
    split
    · split
      · exact .nil ⟨hg, by show (verd s.p s.G).holders.length ≤ 1000; omega, h.acks, h.asks, h.bare⟩
      · exact Sml.fix hp hg h.holders h.acks
    · split
      · exact .nil ⟨h.said, h.holders, h.acks, h.asks, h.bare⟩
      · exact .nil h
theorem Sml.take {s : St} (h : Sml s) (hp : s.p.ok = true) (hg : s.G.length ≤ 256) (m : Msg) : SmlR (s.take m) := by
  have hs : Sml (s.got m) := ⟨h.said, h.holders, h.acks, h.asks, h.bare⟩
  unfold St.take
  split
  · exact .nil h
  · split
    · split
      · exact hs.judge hp (by show (insG s.G m).length ≤ 1000; rw [Rnd.ins_len]; omega)
      · exact .nil hs
    · exact .nil h
theorem Sml.tick {s : St} (h : Sml s) (hp : s.p.ok = true) (hg : s.G.length ≤ 256) : SmlR s.tick := by
  have hj := h.judge hp (by omega)
  unfold St.tick
  split
  · exact .nil h
  · split
    · exact hj
    · unfold St.late
      split
      · exact .nil ⟨hj.s.said, hj.s.holders, hj.s.acks, hj.s.asks, hj.s.bare⟩
      · refine ⟨⟨hj.s.said, hj.s.holders, hj.s.acks, hj.s.asks, hj.s.bare⟩, fun m hm => hj.s.bare m (List.mem_filter.1 hm).1, Nat.le_trans (List.length_filter_le ..) hj.s.asks⟩
end Go.Agr
namespace Go.Txt
open Go.Vx
def addL (l : List ByteArray) (s : ByteArray) : List ByteArray :=
  if (l[(l.takeWhile fun t => lessS t s).length]?).any (fun t => eqS t s) then l else l.take (l.takeWhile fun t => lessS t s).length ++ s :: l.drop (l.takeWhile fun t => lessS t s).length
def Rising (l : List ByteArray) : Prop := l.Pairwise fun a b => lessS a b = true
theorem takeWhile_all {α : Type} {p : α → Bool} : ∀ {l : List α}, (∀ x ∈ l, p x = true) → l.takeWhile p = l
  | [], _ => rfl
  | x :: xs, h => by
    rw [List.takeWhile_cons, if_pos (h x (by simp)), takeWhile_all fun y hy => h y (by simp [hy])]
theorem takeWhile_stop {α : Type} {p : α → Bool} {y : α} (hy : p y = false) : ∀ {l : List α}, (∀ x ∈ l, p x = true) → ∀ r, (l ++ y :: r).takeWhile p = l
  | [], _, r => by simp [hy]
  | x :: xs, h, r => by
    rw [List.cons_append, List.takeWhile_cons, if_pos (h x (by simp)), takeWhile_stop hy (fun y hy => h y (by simp [hy])) r]
end Go.Txt
namespace Go.Txt
open Go.Vx Go.Vc Go.Proofs
theorem tStr : ElemT Tryz.prog 49 9 1 16 := .of (by kernel_rfl)
abbrev sE : ByteArray → List Value := strE
theorem sLen (x : ByteArray) : (sE x).length = 1 := rfl
theorem sOne (x : ByteArray) : ∀ u ∈ sE x, u.oneCell' = true := fun u hu => by simp [strE] at hu; subst hu; rfl
theorem wrapS {i : Int} (h0 : 0 ≤ i) (h1 : i ≤ 1000000) : IntKind.i64.wrap (i + 1) = i + 1 := wrap64 (by omega) (by omega)
theorem tw_len {l : List ByteArray} {s : ByteArray} {i : Nat} (h1 : ∀ j x, j < i → l[j]? = some x → lessS x s = true) (h2 : i ≤ l.length) (h3 : ∀ x, l[i]? = some x → lessS x s = false) : (l.takeWhile fun t => lessS t s).length = i := by
  have ha : ∀ x ∈ l.take i, lessS x s = true := fun x hx => by
    obtain ⟨j, hj⟩ := List.getElem?_of_mem hx
    rw [List.getElem?_take] at hj
    split at hj
    · exact h1 j x (by assumption) hj
    · cases hj
  by_cases h : i < l.length
  · have hd : l = l.take i ++ l[i] :: l.drop (i + 1) := by rw [List.getElem_cons_drop, List.take_append_drop]
    have := takeWhile_stop (p := fun t => lessS t s) (h3 _ (List.getElem?_eq_getElem h)) ha (l.drop (i + 1))
    rw [hd, this, List.length_take]
    omega
  · rw [List.take_of_length_le (by omega)] at ha
    rw [takeWhile_all ha]
    omega
end Go.Txt
namespace Go.Lab
open Go.Vx Go.Txt
theorem rising_ext : ∀ {l m : List ByteArray}, Rising l → Rising m → (∀ x, x ∈ l ↔ x ∈ m) → l = m
  | [], [], _, _, _ => rfl
  | [], y :: _, _, _, h => by have := (h y).2 (by simp); simp at this
  | x :: _, [], _, _, h => by have := (h x).1 (by simp); simp at this
  | x :: xs, y :: ys, h1, h2, h => by
    obtain ⟨a1, a2⟩ := List.pairwise_cons.1 h1
    obtain ⟨b1, b2⟩ := List.pairwise_cons.1 h2
    have e : x = y := by
      refine Classical.byContradiction fun hne => ?_
      have hx : x ∈ ys := by
        rcases List.mem_cons.1 ((h x).1 (by simp)) with e | hx
        · exact absurd e hne
        · exact hx
      have hy : y ∈ xs := by
        rcases List.mem_cons.1 ((h y).2 (by simp)) with e | hy
        · exact absurd e.symm hne
        · exact hy
      have := lessS_asymm (a1 y hy)
      rw [b1 x hx] at this; cases this
    subst e
    have hxs : x ∉ xs := fun hm => by have := a1 x hm; rw [lessS_irrefl] at this; cases this
    have hys : x ∉ ys := fun hm => by have := b1 x hm; rw [lessS_irrefl] at this; cases this
    rw [rising_ext a2 b2 fun z => ⟨fun hz => by
      rcases List.mem_cons.1 ((h z).1 (by simp [hz])) with rfl | hz'
      · exact absurd hz hxs
      · exact hz', fun hz => by
      rcases List.mem_cons.1 ((h z).2 (by simp [hz])) with rfl | hz'
      · exact absurd hz hys
      · exact hz'⟩]
theorem takeWhile_mem {α : Type} {p : α → Bool} {l : List α} {x : α} (h : x ∈ l.takeWhile p) : p x = true := by
  induction l with
  | nil => simp at h
  | cons y ys ih =>
    rw [List.takeWhile_cons] at h
    split at h
    · rcases List.mem_cons.1 h with rfl | h
      · assumption
      · exact ih h
    · simp at h
theorem dropWhile_head {α : Type} {p : α → Bool} : ∀ {l : List α} {y : α} {r : List α}, l.dropWhile p = y :: r → p y = false
  | [], _, _, h => by simp at h
  | x :: xs, y, r, h => by
    rw [List.dropWhile_cons] at h
    split at h
    · exact dropWhile_head h
    · injection h with h1 h2
      subst h1
      simpa using (by assumption : ¬ p x = true)
theorem take_tw {α : Type} (p : α → Bool) (l : List α) : l.take (l.takeWhile p).length = l.takeWhile p ∧ l.drop (l.takeWhile p).length = l.dropWhile p := by
  have h := List.takeWhile_append_dropWhile (p := p) (l := l)
  generalize l.takeWhile p = A at *
  generalize l.dropWhile p = B at *
  subst h
  exact ⟨List.take_left' rfl, List.drop_left' rfl⟩
theorem add_rising {l : List ByteArray} (s : ByteArray) (h : Rising l) : Rising (addL l s) ∧ ∀ x, x ∈ addL l s ↔ x ∈ l ∨ x = s := by
  obtain ⟨e1, e2⟩ := take_tw (fun t => lessS t s) l
  have hl := List.takeWhile_append_dropWhile (p := fun t => lessS t s) (l := l)
  unfold addL
  split
  · rename_i hs
    refine ⟨h, fun x => ⟨.inl, ?_⟩⟩
    rintro (hx | rfl)
    · exact hx
    · cases hg : l[(l.takeWhile fun t => lessS t x).length]? with
      | none => rw [hg] at hs; simp at hs
      | some t =>
        rw [hg] at hs
        simp at hs
        rw [← eqS_iff.1 hs]
        exact List.mem_of_getElem? hg
  · rename_i hs
    rw [e1, e2]
    have hlo : ∀ x ∈ l.takeWhile (fun t => lessS t s), lessS x s = true := fun x hx => takeWhile_mem (p := fun t => lessS t s) hx
    have hsub : Rising (l.takeWhile (fun t => lessS t s) ++ l.dropWhile (fun t => lessS t s)) := by rw [hl]; exact h
    obtain ⟨p1, p2, p3⟩ := List.pairwise_append.1 hsub
    have hhi : ∀ x ∈ l.dropWhile (fun t => lessS t s), lessS s x = true := by
      cases hd : l.dropWhile (fun t => lessS t s) with
      | nil => simp
      | cons y r =>
        have hy : lessS y s = false := dropWhile_head (p := fun t => lessS t s) hd
        have hyl : l[(l.takeWhile fun t => lessS t s).length]? = some y := by
          have : (l.drop (l.takeWhile fun t => lessS t s).length)[0]? = some y := by rw [e2, hd]; rfl
          rwa [List.getElem?_drop, Nat.add_zero] at this
        rw [hyl] at hs
        have hne : y ≠ s := by simpa [eqS_iff] using hs
        have hsy : lessS s y = true := by
          rcases lessS_total hne with h1 | h1
          · rw [hy] at h1; cases h1
          · exact h1
        rw [hd] at p2
        obtain ⟨q1, _⟩ := List.pairwise_cons.1 p2
        intro x hx
        rcases List.mem_cons.1 hx with rfl | hx
        · exact hsy
        · exact lessS_trans hsy (q1 x hx)
    refine ⟨List.pairwise_append.2 ⟨p1, List.pairwise_cons.2 ⟨hhi, p2⟩, fun a ha b hb => ?_⟩, fun x => ?_⟩
    · rcases List.mem_cons.1 hb with rfl | hb
      · exact hlo a ha
      · exact p3 a ha b hb
    · rw [List.mem_append, List.mem_cons]
      conv => rhs; rw [← hl, List.mem_append]
      constructor
      · rintro (h1 | h1 | h1)
        · exact .inl (.inl h1)
        · exact .inr h1
        · exact .inl (.inr h1)
      · rintro ((h1 | h1) | h1)
        · exact .inl h1
        · exact .inr (.inr h1)
        · exact .inr (.inl h1)
/-- All texts, one behind the other. -/
def mergeL (l : List ByteArray) : List ByteArray := l.foldl addL []
theorem foldl_rising : ∀ (l : List ByteArray) {o : List ByteArray}, Rising o → Rising (l.foldl addL o) ∧ ∀ x, x ∈ l.foldl addL o ↔ x ∈ o ∨ x ∈ l
  | [], o, h => ⟨h, fun x => by simp⟩
  | s :: l, o, h => by
    obtain ⟨h1, h2⟩ := add_rising s h
    obtain ⟨h3, h4⟩ := foldl_rising l h1
    refine ⟨h3, fun x => ?_⟩
    rw [List.foldl_cons, h4, h2, List.mem_cons]
    constructor
    · rintro ((h | h) | h)
      · exact .inl h
      · exact .inr (.inl h)
      · exact .inr (.inr h)
    · rintro (h | h | h)
      · exact .inl (.inl h)
      · exact .inl (.inr h)
      · exact .inr h
theorem mergeL_rising (l : List ByteArray) : Rising (mergeL l) ∧ ∀ x, x ∈ mergeL l ↔ x ∈ l := by
  obtain ⟨h1, h2⟩ := foldl_rising l (o := []) List.Pairwise.nil
  exact ⟨h1, fun x => by rw [mergeL, h2]; simp⟩
theorem addL_len (l : List ByteArray) (s : ByteArray) : (addL l s).length ≤ l.length + 1 := by
  unfold addL
  split
  · omega
  · rw [List.length_append, List.length_cons, List.length_take, List.length_drop]; omega
theorem foldl_len : ∀ (l : List ByteArray) (o : List ByteArray), (l.foldl addL o).length ≤ o.length + l.length
  | [], o => by simp
  | s :: l, o => by
    have h1 := foldl_len l (addL o s)
    have h2 := addL_len o s
    rw [List.foldl_cons, List.length_cons]
    omega
abbrev ofB (x : ByteArray) : List UInt8 := x.data.toList
abbrev toB (x : List UInt8) : ByteArray := ⟨x.toArray⟩
theorem toB_ofB (x : ByteArray) : toB (ofB x) = x := by cases x; simp [toB, ofB]
theorem ofB_toB (x : List UInt8) : ofB (toB x) = x := by simp [toB, ofB]
theorem bl_lt : ∀ (x y : List UInt8), Op.bytesLess x y = decide (x < y)
  | [], [] => by simp [Op.bytesLess]
  | _ :: _, [] => by simp [Op.bytesLess]
  | [], _ :: _ => by simp [Op.bytesLess]
  | a :: x, b :: y => by
    rw [Op.bytesLess, bl_lt x y]
    simp only [List.cons_lt_cons_iff]
    by_cases h1 : a < b <;> by_cases h2 : a = b <;> by_cases h3 : x < y <;> simp [h1, h2, h3]
theorem le_iff (x y : List UInt8) : decide (x ≤ y) = !Op.bytesLess y x := by
  rw [bl_lt]
  by_cases h : y < x
  · have : ¬ x ≤ y := fun h2 => h2 h
    simp [h, this]
  · have : x ≤ y := h
    simp [h, this]
theorem less_ofB (x y : ByteArray) : lessS x y = Op.bytesLess (ofB x) (ofB y) := by unfold lessS; rw [toListB, toListB]
/-- Distinct texts, sorted, rise. -/
theorem sorted_rising {l : List ByteArray} (hn : l.Nodup) : Rising (((l.map ofB).mergeSort fun x y => decide (x ≤ y)).map toB) ∧ ∀ x, x ∈ ((l.map ofB).mergeSort fun x y => decide (x ≤ y)).map toB ↔ x ∈ l := by
  have hp := List.mergeSort_perm (l.map ofB) (fun x y => decide (x ≤ y))
  have hmem : ∀ x, x ∈ ((l.map ofB).mergeSort fun x y => decide (x ≤ y)).map toB ↔ x ∈ l := fun x => by
    rw [List.mem_map]
    constructor
    · rintro ⟨y, hy, rfl⟩
      obtain ⟨z, hz, rfl⟩ := List.mem_map.1 (hp.mem_iff.1 hy)
      rw [toB_ofB]; exact hz
    · intro hx
      exact ⟨ofB x, hp.mem_iff.2 (List.mem_map.2 ⟨x, hx, rfl⟩), toB_ofB x⟩
  refine ⟨?_, hmem⟩
  have hs := List.pairwise_mergeSort (le := fun x y : List UInt8 => decide (x ≤ y)) (fun a b c h1 h2 => by
    rw [le_iff] at *
    simp only [Bool.not_eq_true'] at *
    cases h3 : Op.bytesLess c a with
    | false => rfl
    | true =>
      by_cases e : b = a
      · subst e; rw [h2] at h3; cases h3
      · rcases bytesLess_total e with h4 | h4
        · rw [h1] at h4; cases h4
        · have := bytesLess_trans h3 h4; rw [h2] at this; cases this) (fun a b => by
    rw [le_iff, le_iff]
    cases h1 : Op.bytesLess b a with
    | false => rfl
    | true =>
      cases h2 : Op.bytesLess a b with
      | false => rfl
      | true => have := bytesLess_trans h1 h2; rw [bytesLess_irrefl] at this; cases this) (l.map ofB)
  have hnd : (l.map ofB).Nodup := by
    rw [List.nodup_iff_pairwise_ne, List.pairwise_map]
    exact hn.imp fun {a b} hne e => hne (by rw [← toB_ofB a, e, toB_ofB])
  have hnd2 := hp.nodup_iff.2 hnd
  have hboth : ((l.map ofB).mergeSort fun x y => decide (x ≤ y)).Pairwise fun a b => Op.bytesLess a b = true := by
    refine List.Pairwise.imp₂ (R := fun a b => decide (a ≤ b) = true) (S := fun a b => a ≠ b) (fun a b h1 h2 => ?_) hs hnd2
    rw [le_iff] at h1
    rcases bytesLess_total h2 with h3 | h3
    · exact h3
    · rw [h3] at h1; cases h1
  unfold Rising
  rw [List.pairwise_map]
  exact hboth.imp fun h => by rw [less_ofB, ofB_toB, ofB_toB]; exact h
end Go.Lab
namespace Go.Vc
open Go.Vx Go
def right.cx : Cx := ⟨[], [(4, [18], [])], [], []⟩
def sign.cx : Cx := ⟨[], [], [], []⟩
def less.cx : Cx := ⟨[], [], [], []⟩
def each.cx : Cx := ⟨[1], [], [], []⟩
def each1.cx : Cx := ⟨[], [(1, [9], []), (4, [15], [])], [], []⟩
def merge.cx : Cx := ⟨[3, 4], [], [], [(9, [9])]⟩
def refRight.cx : Cx := ⟨[], [(4, [3], [])], [], []⟩
def farS.cx : Cx := ⟨[], [(2, [3], [])], [], []⟩
theorem right.vc (s1 : ByteArray) (H : PHeap) (Q : Value → PHeap → Prop)
 (h : (eqS s1 ({ data := #[] } : ByteArray) = false →
 (decide ((↑s1.size : Int) > 16) = false →
 Ob ((0 : Int) ≤ 0 ∧ 0 < (↑s1.size : Int)) ∧
 ((byteAt s1 0 == 45) = true → Q (Value.bool false) H) ∧
 ((byteAt s1 0 == 45) = false →
 ∃ (R2 : Rl) (M3 : Mu),
 R2 [Value.int IntKind.i64 0] H ∧
 ∀ (n4 : Int) (H5 : PHeap),
 R2 [Value.int IntKind.i64 n4] H5 →
 (decide (n4 < (↑s1.size : Int)) = true →
 Ob (0 ≤ n4 ∧ n4 < (↑s1.size : Int)) ∧
 Triple Proofs.Tryz.prog 53 #[Value.int IntKind.u8 (byteAt s1 n4)] H5 fun v6 H7 =>
 ∃ b8,
 v6 = Value.bool b8 ∧
 ((!b8) = true → Q (Value.bool false) H7) ∧
 ((!b8) = false →
 R2 [Value.int IntKind.i64 (IntKind.i64.wrap (n4 + 1))] H7 ∧
 Less (M3 [Value.int IntKind.i64 (IntKind.i64.wrap (n4 + 1))] H7) (M3 [Value.int IntKind.i64 n4] H5))) ∧
 (decide (n4 < (↑s1.size : Int)) = false → Q (Value.bool true) H5))) ∧
 (decide ((↑s1.size : Int) > 16) = !false → Q (Value.bool false) H)) ∧
 (eqS s1 ({ data := #[] } : ByteArray) = !false → Q (Value.bool false) H)) :
 Triple Go.Proofs.Tryz.prog 20 ([Value.string s1]).toArray H Q :=
 Triple.of_vc right.cx (by kernel_rfl) h
theorem sign.vc (n1 : Int) (H : PHeap) (Q : Value → PHeap → Prop)
 (h : Q
 (Value.bool
 (bif decide (n1 ≥ 97) then bif decide (n1 ≤ 122) then true else bif decide (n1 ≥ 48) then bif decide (n1 ≤ 57) then true else n1 == 45 else n1 == 45
 else bif decide (n1 ≥ 48) then bif decide (n1 ≤ 57) then true else n1 == 45 else n1 == 45))
 H) :
 Triple Go.Proofs.Tryz.prog 53 ([Value.int IntKind.u8 n1]).toArray H Q :=
 Triple.of_vc sign.cx (by kernel_rfl) h
theorem less.vc (s1 : ByteArray) (s2 : ByteArray) (H : PHeap) (Q : Value → PHeap → Prop)
 (h : Q (Value.bool (lessS s1 s2)) H) :
 Triple Go.Proofs.Tryz.prog 126 ([Value.string s1, Value.string s2]).toArray H Q :=
 Triple.of_vc less.cx (by kernel_rfl) h
theorem each.vc (a1 : Option Addr) (k2 : Nat) (k3 : Nat) (H : PHeap) (Q : Value → PHeap → Prop)
 (h : ∀ (k4 : Nat), H k4 = none → Q (Value.func (Fn.func 177) #[] #[Value.pointer (at0 k4)]) (H.upd k4 (Obj.cells #[Value.slice a1 k2 k3] 185))) :
 Triple Go.Proofs.Tryz.prog 152 ([Value.slice a1 k2 k3]).toArray H Q :=
 Triple.of_vc each.cx (by kernel_rfl) h
theorem each1.vc (v1 : Value) (a2 : Option Addr) (H : PHeap) (Q : Value → PHeap → Prop)
 (h : ∃ a3 k4 k5,
 Reads H a2 [Value.slice a3 k4 k5] ∧
 ∃ (R6 : Rl) (M7 : Mu),
 R6 [Value.int IntKind.i64 0] H ∧
 ∀ (n8 : Int) (H9 : PHeap),
 R6 [Value.int IntKind.i64 n8] H9 →
 (decide (n8 < (↑k4 : Int)) = true →
 Ob (a3 ≠ none ∧ 0 ≤ n8 ∧ n8 < (↑k4 : Int)) ∧
 ∃ a10 k11 k12,
 Reads H9 (elemA a3 n8 1) [Value.slice a10 k11 k12] ∧
 ∃ (R13 : Rl) (M14 : Mu),
 R13 [Value.int IntKind.i64 0] H9 ∧
 ∀ (n15 : Int) (H16 : PHeap),
 R13 [Value.int IntKind.i64 n15] H16 →
 (decide (n15 < (↑k11 : Int)) = true →
 Ob (a10 ≠ none ∧ 0 ≤ n15 ∧ n15 < (↑k11 : Int)) ∧
 ∃ s17,
 Reads H16 (elemA a10 n15 1) [Value.string s17] ∧
 CallY Proofs.Tryz.prog v1 #[Value.string s17] H16 fun v18 H19 =>
 ∃ b20,
 v18 = Value.bool b20 ∧
 ((!b20) = true → Q (Value.tuple #[]) H19) ∧
 ((!b20) = false →
 R13 [Value.int IntKind.i64 (IntKind.i64.wrap (n15 + 1))] H19 ∧
 Less (M14 [Value.int IntKind.i64 (IntKind.i64.wrap (n15 + 1))] H19) (M14 [Value.int IntKind.i64 n15] H16))) ∧
 (decide (n15 < (↑k11 : Int)) = false →
 R6 [Value.int IntKind.i64 (IntKind.i64.wrap (n8 + 1))] H16 ∧ Less (M7 [Value.int IntKind.i64 (IntKind.i64.wrap (n8 + 1))] H16) (M7 [Value.int IntKind.i64 n8] H9))) ∧
 (decide (n8 < (↑k4 : Int)) = false → Q (Value.tuple #[]) H9)) :
 Triple Go.Proofs.Tryz.prog 177 ([v1, Value.pointer a2]).toArray H Q :=
 Triple.of_vc each1.cx (by kernel_rfl) h
theorem merge.vc (a1 : Option Addr) (k2 : Nat) (k3 : Nat) (H : PHeap) (Q : Value → PHeap → Prop)
 (h : EvV Proofs.Tryz.prog (Instr.makeMap 186 none) H fun v4 H5 =>
 ∃ a6,
 v4 = Value.map a6 ∧
 ∀ (k7 : Nat),
 H5 k7 = none →
 ∃ H8,
 Writes (H5.upd k7 (Obj.cells #[Value.map none] 186)) H8 (at0 k7) [Value.map a6] ∧
 ∀ (k9 : Nat),
 H8 k9 = none →
 Triple Proofs.Tryz.prog 152 #[Value.slice a1 k2 k3] (H8.upd k9 (Obj.cells #[Value.slice none 0 0] 49)) fun v10 H11 =>
 ∃ v12,
 v10 = v12 ∧
 ∃ (x13 : _) (J14 : (Nat → PHeap → Prop)) (J15 : (Nat → PHeap → Prop)) (H16 : _),
 Vx.Sub H16 H11 ∧
 IterOk Proofs.Tryz.prog v12 H16 x13 ∧
 FitAll [Value.string ({ data := #[] } : ByteArray)] x13 ∧
 (∀ (k17 : Nat) (H18 : PHeap), J14 k17 H18 → Vx.Sub H16 H18) ∧
 J14 0 H11 ∧
 (∀ (s19 : ByteArray) (k20 : Nat) (H21 : PHeap),
 Nth x13 k20 [Value.string s19] →
 J14 k20 H21 →
 ∃ a22,
 Reads H21 (at0 k7) [Value.map a22] ∧
 LookV Proofs.Tryz.prog (Instr.lookup 186 (Value.map a22) (Value.string s19) false) H21 fun v23 =>
 ∃ n24,
 v23 = Value.int IntKind.i64 n24 ∧
 EvU Proofs.Tryz.prog (Instr.mapUpdate 186 (Value.map a22) (Value.string s19) (Value.int IntKind.i64 (IntKind.i64.wrap (n24 + 1)))) H21 fun H25 =>
 ∃ a26,
 Reads H25 (at0 k7) [Value.map a26] ∧
 LookV Proofs.Tryz.prog (Instr.lookup 186 (Value.map a26) (Value.string s19) false) H25 fun v27 =>
 ∃ n28,
 v27 = Value.int IntKind.i64 n28 ∧
 ((n28 == 1) = true →
 ∃ a29 k30 k31,
 Reads H25 (at0 k9) [Value.slice a29 k30 k31] ∧
 ∀ (k32 : Nat),
 H25 k32 = none →
 EvV Proofs.Tryz.prog
 (Builtin.append_ #[49, 49] 49 #[Value.slice a29 k30 k31, Value.slice (at0 k32) 1 1])
 (H25.upd k32 (Obj.cells #[Value.string s19] 9)) fun v33 H34 =>
 ∃ a35 k36 k37,
 v33 = Value.slice a35 k36 k37 ∧
 ∃ H38, Writes H34 H38 (at0 k9) [Value.slice a35 k36 k37] ∧ J14 (k20 + 1) H38) ∧
 ((n28 == 1) = false → J14 (k20 + 1) H25)) ∧
 (∀ (H39 : PHeap),
 J14 x13.length H39 →
 ∃ a40 k41 k42,
 Reads H39 (at0 k9) [Value.slice a40 k41 k42] ∧
 Triple Proofs.Tryz.prog 153 #[Value.slice a40 k41 k42] H39 fun v43 H44 =>
 v43 = Value.tuple #[] ∧ ∃ a45 k46 k47, Reads H44 (at0 k9) [Value.slice a45 k46 k47] ∧ Q (Value.slice a45 k46 k47) H44) ∧
 True ∧ True) :
 Triple Go.Proofs.Tryz.prog 132 ([Value.slice a1 k2 k3]).toArray H Q :=
 Triple.of_vc merge.cx (by kernel_rfl) h
theorem refRight.vc (s1 : ByteArray) (H : PHeap) (Q : Value → PHeap → Prop)
 (h : ((bif decide ((↑s1.size : Int) < 1) then true else decide ((↑s1.size : Int) > 16)) = true → Q (Value.bool false) H) ∧
 ((bif decide ((↑s1.size : Int) < 1) then true else decide ((↑s1.size : Int) > 16)) = false →
 ∃ (R2 : Rl) (M3 : Mu),
 R2 [Value.int IntKind.i64 0] H ∧
 ∀ (n4 : Int) (H5 : PHeap),
 R2 [Value.int IntKind.i64 n4] H5 →
 (decide (n4 < (↑s1.size : Int)) = true →
 Ob (0 ≤ n4 ∧ n4 < (↑s1.size : Int)) ∧
 ((bif !bif decide (IntKind.i64.wrap (byteAt s1 n4) ≥ 97) then decide (IntKind.i64.wrap (byteAt s1 n4) ≤ 122) else false then
 bif !bif decide (IntKind.i64.wrap (byteAt s1 n4) ≥ 48) then decide (IntKind.i64.wrap (byteAt s1 n4) ≤ 57) else false then
 bif IntKind.i64.wrap (byteAt s1 n4) != 45 then true else n4 == 0
 else false
 else false) =
 true →
 Q (Value.bool false) H5) ∧
 ((bif !bif decide (IntKind.i64.wrap (byteAt s1 n4) ≥ 97) then decide (IntKind.i64.wrap (byteAt s1 n4) ≤ 122) else false then
 bif !bif decide (IntKind.i64.wrap (byteAt s1 n4) ≥ 48) then decide (IntKind.i64.wrap (byteAt s1 n4) ≤ 57) else false then
 bif IntKind.i64.wrap (byteAt s1 n4) != 45 then true else n4 == 0
 else false
 else false) =
 false →
 R2 [Value.int IntKind.i64 (IntKind.i64.wrap (n4 + 1))] H5 ∧ Less (M3 [Value.int IntKind.i64 (IntKind.i64.wrap (n4 + 1))] H5) (M3 [Value.int IntKind.i64 n4] H5))) ∧
 (decide (n4 < (↑s1.size : Int)) = false → Q (Value.bool true) H5))) :
 Triple Go.Proofs.Tryz.prog 26 ([Value.string s1]).toArray H Q :=
 Triple.of_vc refRight.cx (by kernel_rfl) h
theorem farS.vc (a1 : Option Addr) (k2 : Nat) (k3 : Nat) (H : PHeap) (Q : Value → PHeap → Prop)
 (h : ∃ (R4 : Rl) (M5 : Mu),
 R4 [Value.int IntKind.i64 0] H ∧
 ∀ (n6 : Int) (H7 : PHeap),
 R4 [Value.int IntKind.i64 n6] H7 →
 ((bif decide (n6 < (↑k2 : Int)) then decide (n6 < 100) else false) = true →
 Ob (a1 ≠ none ∧ 0 ≤ n6 ∧ n6 < (↑k2 : Int)) ∧
 ∃ s8,
 Reads H7 (elemA a1 n6 1) [Value.string s8] ∧
 (decide ((↑s8.size : Int) > 40) = true → Q (Value.bool true) H7) ∧
 (decide ((↑s8.size : Int) > 40) = false →
 R4 [Value.int IntKind.i64 (IntKind.i64.wrap (n6 + 1))] H7 ∧ Less (M5 [Value.int IntKind.i64 (IntKind.i64.wrap (n6 + 1))] H7) (M5 [Value.int IntKind.i64 n6] H7))) ∧
 ((bif decide (n6 < (↑k2 : Int)) then decide (n6 < 100) else false) = false → Q (Value.bool (decide ((↑k2 : Int) > 60))) H7)) :
 Triple Go.Proofs.Tryz.prog 84 ([Value.slice a1 k2 k3]).toArray H Q :=
 Triple.of_vc farS.cx (by kernel_rfl) h
end Go.Vc
namespace Go.Lab
open Go.Vx Go.Vc Go.Proofs Go.Txt
def signP (c : Int) : Prop := (97 ≤ c ∧ c ≤ 122) ∨ (48 ≤ c ∧ c ≤ 57) ∨ c = 45
/-- A text is a name. -/
def NameP (s : ByteArray) : Prop := 1 ≤ s.size ∧ s.size ≤ 16 ∧ byteAt s 0 ≠ 45 ∧ ∀ i : Nat, i < s.size → signP (byteAt s i)
theorem byteAt_range (s : ByteArray) (i : Int) : 0 ≤ byteAt s i ∧ byteAt s i ≤ 255 := by
  unfold byteAt
  have := UInt8.toNat_lt ((s.data[i.toNat]?).getD 0)
  omega
theorem refRight_ok {H : PHeap} (s : ByteArray) : Triple Tryz.prog 26 #[.string s] H fun v H' => ∃ b, v = .bool b ∧ H' = H ∧ (b = true ↔ NameP s) := by
  refine refRight.vc s H _ ⟨fun hs => ?_, fun hs => ?_⟩
  · refine ⟨_, rfl, rfl, ?_⟩
    simp only [Bool.false_eq_true, false_iff]
    simp only [Bool.cond_eq_ite] at hs
    intro hn
    have := hn.1
    have := hn.2.1
    grind
  · have hsz : 1 ≤ s.size ∧ s.size ≤ 16 := by
      simp only [Bool.cond_eq_ite] at hs
      grind
    refine ⟨fun l H' => match l with | [.int _ i] => 0 ≤ i ∧ i ≤ s.size ∧ H' = H ∧ ∀ j : Nat, (j : Int) < i → signP (byteAt s j) ∧ (j = 0 → byteAt s j ≠ 45) | _ => False, fun l _ => match l with | [.int _ i] => (s.size - i).toNat | _ => 0, ⟨by omega, by omega, rfl, fun j hj => by omega⟩, ?_⟩
    rintro i H1 ⟨i0, i1, rfl, hall⟩
    refine ⟨fun hi => ⟨⟨i0, by simpa using hi⟩, ?_⟩, fun hi => ?_⟩
    · have hi' : i < s.size := by simpa using hi
      have hr := byteAt_range s i
      have ew : IntKind.i64.wrap (byteAt s i) = byteAt s i := wrap64 (by omega) (by omega)
      rw [ew]
      refine ⟨fun h => ⟨_, rfl, rfl, ?_⟩, fun h => ?_⟩
      · simp only [Bool.false_eq_true, false_iff]
        intro hn
        have h1 := hn.2.2.2 i.toNat (by omega)
        rw [show ((i.toNat : Nat) : Int) = i by omega] at h1
        have h2 := hn.2.2.1
        unfold signP at h1
        simp only [Bool.cond_eq_ite] at h
        grind
      · rw [wrapS i0 (by omega)]
        refine ⟨⟨by omega, by omega, rfl, fun j hj => ?_⟩, ⟨by simp only; omega⟩⟩
        by_cases e : (j : Int) = i
        · rw [e]
          unfold signP
          simp only [Bool.cond_eq_ite] at h
          grind
        · exact hall j (by omega)
    · have hi' : ¬ i < s.size := by simpa using hi
      refine ⟨_, rfl, rfl, ?_⟩
      simp only [true_iff]
      exact ⟨hsz.1, hsz.2, (hall 0 (by omega)).2 rfl, fun j hj => (hall j (by omega)).1⟩
theorem less_ok (s t : ByteArray) : Pure Tryz.prog 126 #[.string s, .string t] (.bool (lessS s t)) := fun H => less.vc s t H _ ⟨rfl, rfl⟩
theorem far_ok {H : PHeap} {oa : Option Addr} {n c : Nat} {l : List ByteArray} (hl : RdL H sE 1 oa n l) : Triple Tryz.prog 84 #[.slice oa n c] H fun v H' => ∃ b, v = .bool b ∧ H' = H ∧ (b = false → n ≤ 60 ∧ ∀ x ∈ l, x.size ≤ 40) := by
  have hll := hl.len
  refine farS.vc oa n c H _ ⟨fun l' H' => match l' with | [.int _ i] => 0 ≤ i ∧ i ≤ n ∧ H' = H ∧ ∀ x ∈ l.take i.toNat, x.size ≤ 40 | _ => False, fun l' _ => match l' with | [.int _ i] => (n - i).toNat | _ => 0, ⟨by omega, by omega, rfl, by simp⟩, ?_⟩
  rintro i H1 ⟨i0, i1, rfl, hall⟩
  refine ⟨fun hc => ?_, fun hc => ⟨_, rfl, rfl, fun hb => ?_⟩⟩
  · have hi : i < n ∧ i < 100 := by
      simp only [Bool.cond_eq_ite] at hc
      grind
    obtain ⟨x, hx, hxr⟩ := hl.ex i0 hi.1
    refine ⟨hl.ob i0 hi.1, x, hxr, fun _ => ⟨_, rfl, rfl, fun e => by cases e⟩, fun hs => ?_⟩
    rw [wrapS i0 (by omega)]
    refine ⟨⟨by omega, by omega, rfl, fun y hy => ?_⟩, ⟨by simp only; omega⟩⟩
    rw [show (i + 1).toNat = i.toNat + 1 by omega, List.take_add_one, hx] at hy
    rcases List.mem_append.1 hy with hy | hy
    · exact hall y hy
    · simp at hy
      subst hy
      simp at hs
      omega
  · have hn : n ≤ 60 := by simp at hb; omega
    have hi : ¬ (i < n ∧ i < 100) := by
      simp only [Bool.cond_eq_ite] at hc
      grind
    rw [List.take_of_length_le (by omega)] at hall
    exact ⟨hn, hall⟩
theorem CallY.mono {P : Program} {f : Value} {args : Array Value} {H : PHeap} {Q Q' : Value → PHeap → Prop} (h : CallY P f args H Q) (hq : ∀ v H', Q v H' → Q' v H') : CallY P f args H Q' :=
  ⟨fun w hs => (h.out w hs).imp (fun ⟨g, xs, h1, h2⟩ => ⟨g, xs, h1, h2.mono fun _ _ ⟨v, H', he, hn, hQ⟩ => ⟨v, H', he, hn, hq v H' hQ⟩⟩) fun ⟨l, g, tmps, as_, body, h1, h2⟩ => ⟨l, g, tmps, as_, body, h1, RoundIn.mono h2 fun _ _ ⟨v, H', he, hn, hQ⟩ => ⟨v, H', he, hn, hq v H' hQ⟩⟩⟩
abbrev TT := Sl ByteArray
/-- Lists of texts are read. -/
structure RdT (H : PHeap) (oa : Option Addr) (n : Nat) (ps : List TT) : Prop where
  top : RdL H Sl.E 1 oa n ps
  each : ∀ p ∈ ps, RdL H sE 1 p.oa p.n p.l
theorem RdT.mono {H H' : PHeap} {oa : Option Addr} {n : Nat} {ps : List TT} (h : RdT H oa n ps) (hs : Sub H H') : RdT H' oa n ps := ⟨h.top.mono hs, fun p hp => (h.each p hp).mono hs⟩
def allT (ps : List TT) : List ByteArray := ps.flatMap (·.l)
theorem allT_at {ps : List TT} {i j : Nat} {p : TT} {x : ByteArray} (hp : ps[i]? = some p) (hx : p.l[j]? = some x) : (allT ps)[(allT (ps.take i)).length + j]? = some x := by
  have e : ps = ps.take i ++ p :: ps.drop (i + 1) := by
    have hd : ps.drop i = p :: ps.drop (i + 1) := by rw [List.drop_eq_getElem?_toList_append, hp]; rfl
    rw [← hd, List.take_append_drop]
  have hj := (List.getElem?_eq_some_iff.1 hx).1
  have e2 : ps.flatMap (·.l) = (ps.take i).flatMap (·.l) ++ (p.l ++ (ps.drop (i + 1)).flatMap (·.l)) := by
    conv => lhs; rw [e]
    rw [List.flatMap_append, List.flatMap_cons]
  unfold allT
  rw [e2, List.getElem?_append_right (by omega), Nat.add_sub_cancel_left, List.getElem?_append_left hj]
  exact hx
theorem allT_take {ps : List TT} {i : Nat} {p : TT} (hp : ps[i]? = some p) : (allT (ps.take (i + 1))).length = (allT (ps.take i)).length + p.l.length := by
  unfold allT
  rw [List.take_add_one, hp, List.flatMap_append]
  simp
theorem iter_ok {H : PHeap} {k : Nat} {oa : Option Addr} {n c : Nat} {ps : List TT} (hb : Bx H k 185 [.slice oa n c]) (h : RdT H oa n ps) (hn : n ≤ 100000) (hps : ∀ p ∈ ps, p.n ≤ 100000) :
    IterOk Tryz.prog (.func (.func 177) #[] #[.pointer (at0 k)]) H ((allT ps).map fun s => [Value.string s]) := by
  refine ⟨fun y J X H0 hJ0 hsub hy => CallV.fn (by kernel_rfl) ?_⟩
  have hl := h.top.len
  have hlen : ((allT ps).map fun s => [Value.string s]).length = (allT ps).length := by simp
  refine each1.vc y (at0 k) H0 _ ⟨oa, n, c, (hb.sub (hsub 0 H0 hJ0)).reads, fun t H' => match t with | [.int _ i] => 0 ≤ i ∧ i ≤ n ∧ J (allT (ps.take i.toNat)).length H' | _ => False, fun t _ => match t with | [.int _ i] => (n - i).toNat | _ => 0, ⟨by omega, by omega, by simpa [allT] using hJ0⟩, ?_⟩
  rintro i H1 ⟨i0, i1, hJ1⟩
  obtain ⟨i, rfl⟩ : ∃ j : Nat, i = j := ⟨i.toNat, by omega⟩
  rw [Int.toNat_natCast] at hJ1
  have h1 := h.mono (hsub _ _ hJ1)
  refine ⟨fun hi => ?_, fun hi => ?_⟩
  · have hi' : i < n := by simpa using hi
    obtain ⟨p, hp, hpr⟩ := h1.top.ex (i := (i : Int)) (by omega) (by omega)
    rw [Int.toNat_natCast] at hp
    have hpm := List.mem_of_getElem? hp
    have hpl := (h.each p hpm).len
    have hpn := hps p hpm
    refine ⟨h1.top.ob (by omega) (by omega), p.oa, p.n, p.c, hpr, fun t H' => match t with | [.int _ j] => 0 ≤ j ∧ j ≤ p.n ∧ J ((allT (ps.take i)).length + j.toNat) H' | _ => False, fun t _ => match t with | [.int _ j] => (p.n - j).toNat | _ => 0, ⟨by omega, by omega, by simpa using hJ1⟩, ?_⟩
    rintro j H2 ⟨j0, j1, hJ2⟩
    obtain ⟨j, rfl⟩ : ∃ q : Nat, j = q := ⟨j.toNat, by omega⟩
    rw [Int.toNat_natCast] at hJ2
    have h2 := (h.each p hpm).mono (hsub _ _ hJ2)
    refine ⟨fun hj => ?_, fun hj => ?_⟩
    · have hj' : j < p.n := by simpa using hj
      obtain ⟨x, hx, hxr⟩ := h2.ex (i := (j : Int)) (by omega) (by omega)
      rw [Int.toNat_natCast] at hx
      refine ⟨h2.ob (by omega) (by omega), x, hxr, CallY.mono (hy _ [Value.string x] H2 (by rw [List.getElem?_map, allT_at hp hx]; rfl) hJ2) ?_⟩
      rintro v H3 (⟨rfl, hJ3⟩ | ⟨rfl, hX⟩)
      · refine ⟨true, rfl, fun e => by simp at e, fun _ => ?_⟩
        rw [wrapS (by omega) (by omega)]
        refine ⟨⟨by omega, by omega, ?_⟩, ⟨by simp only; omega⟩⟩
        rw [show ((j : Int) + 1).toNat = j + 1 by omega]
        exact hJ3
      · exact ⟨false, rfl, fun _ => .inr hX, fun e => by simp at e⟩
    · have hj' : ¬ j < p.n := by simpa using hj
      rw [wrapS (by omega) (by omega)]
      refine ⟨⟨by omega, by omega, ?_⟩, ⟨by simp only; omega⟩⟩
      rw [show ((i : Int) + 1).toNat = i + 1 by omega, allT_take hp, hpl, show p.n = j by omega]
      exact hJ2
  · have hi' : ¬ i < n := by simpa using hi
    rw [List.take_of_length_le (by omega)] at hJ1
    rw [hlen]
    exact .inl hJ1
theorem sortS : SortC Tryz.prog 153 (fun l : List UInt8 => Value.string ⟨l.toArray⟩) (fun zs : List (List UInt8) => zs.mergeSort fun x y => decide (x ≤ y)) :=
  ⟨fun blk cap zs w h1 h2 h3 => Tryz.slices_Sort_string blk 0 cap zs w h1 h2 h3, fun cap w => Tryz.slices_Sort_string_none none cap w, fun zs => List.length_mergeSort _⟩
end Go.Lab
namespace Go.Lab
open Go.Vx Go.Vc Go.Proofs Go.Txt
theorem mapS : MapT Tryz.prog 186 (Value.string) (.int .i64 0) := ⟨9, 3, .string, by kernel_rfl, by kernel_rfl, by kernel_rfl, fun _ => trivial, fun a b h => by injection h⟩
abbrev vI (n : Int) : Value := .int .i64 n
theorem flat_str (l : List ByteArray) : l.flatMap sE = (l.map ofB).map (fun l : List UInt8 => Value.string ⟨l.toArray⟩) := by
  induction l with
  | nil => rfl
  | cons x xs ih =>
    rw [List.flatMap_cons, ih]
    cases x
    simp [strE, ofB]
theorem flat_back (l : List (List UInt8)) : l.map (fun l : List UInt8 => Value.string ⟨l.toArray⟩) = (l.map toB).flatMap sE := by
  rw [flat_str]
  rw [List.map_map, List.map_map]
  refine List.map_congr_left fun x _ => ?_
  simp [ofB, toB]
theorem nodup_snoc {α : Type} {l : List α} {x : α} (h : l.Nodup) (hx : x ∉ l) : (l ++ [x]).Nodup := by
  rw [List.nodup_append]
  exact ⟨h, by simp, fun a ha b hb => by simp at hb; rw [hb]; exact fun e => hx (e ▸ ha)⟩
/-- What the loop over the texts has, behind the first ones. -/
structure MSt (H F H' : PHeap) (k7 k9 gb : Nat) (done : List ByteArray) : Prop where
  sub : Sub F H'
  out : ∃ d oa n c o, Mp H' gb Value.string vI d ∧ Bx H' k7 186 [.map (some gb)] ∧ Bx H' k9 49 [.slice oa n c] ∧ OwnL H' 9 sE 1 oa n c o ∧ Off F oa ∧ (∀ a, oa = some a → a.block ≠ k7 ∧ a.block ≠ k9 ∧ a.block ≠ gb) ∧
    o.Nodup ∧ (∀ x, x ∈ o ↔ x ∈ done) ∧ o.length ≤ done.length ∧ (∀ x, (mlook d x).isSome = true ↔ x ∈ done) ∧ ∀ x v, mlook d x = some v → 1 ≤ v ∧ v ≤ done.length
theorem mlook_lay {κ ν : Type} [DecidableEq κ] (l : List (κ × ν)) (k : κ) (v : ν) (x : κ) : mlook (mlay l k v) x = if x = k then some v else mlook l x := by
  unfold mlay
  split
  · rename_i h
    induction l with
    | nil => simp [mlook] at h
    | cons y ys ih =>
      unfold mlook at *
      rw [List.map_cons, List.find?_cons, List.find?_cons]
      by_cases hy : y.1 = k
      · rw [if_pos hy]
        by_cases hx : x = k
        · subst hx; simp
        · have h1 : ¬ k = x := fun e => hx e.symm
          have h2 : ¬ y.1 = x := fun e => hx (e.symm.trans hy)
          simp only [h1, h2, decide_false, hx, if_false]
          by_cases hr : ((ys.find? fun z => decide (z.1 = k)).map (·.2)).isSome = true
          · have := ih hr; rw [if_neg hx] at this; exact this
          · -- no other entry of the key
            have hno : ∀ z ∈ ys, z.1 ≠ k := by
              intro z hz e
              apply hr
              rw [Option.isSome_map, List.find?_isSome]
              exact ⟨z, hz, by simp [e]⟩
            have : ys.map (fun z => if z.1 = k then (k, v) else z) = ys := by
              conv => rhs; rw [← List.map_id ys]
              refine List.map_congr_left fun z hz => ?_
              rw [if_neg (hno z hz)]; rfl
            rw [this]
      · rw [if_neg hy]
        rw [List.find?_cons, show decide (y.1 = k) = false by simp [hy]] at h
        have := ih h
        by_cases hx : y.1 = x
        · have : ¬ x = k := fun e => hy (hx.trans e)
          simp [hx, this]
        · simp only [hx, decide_false]
          exact this
  · rename_i h
    unfold mlook at *
    rw [List.find?_append]
    by_cases hx : x = k
    · subst hx
      have : l.find? (fun z => decide (z.1 = x)) = none := by
        cases hf : l.find? (fun z => decide (z.1 = x)) with
        | none => rfl
        | some z => rw [hf] at h; simp at h
      rw [this]
      simp
    · have : ¬ k = x := fun e => hx e.symm
      rw [if_neg hx]
      cases l.find? (fun z => decide (z.1 = x)) <;> simp [this]
theorem merge_own {H : PHeap} {oa : Option Addr} {n c : Nat} {ps : List TT} (h : RdT H oa n ps) (hn : n ≤ 100000) (hps : ∀ p ∈ ps, p.n ≤ 100000) (hall : (allT ps).length ≤ 100000) :
    Triple Tryz.prog 132 #[.slice oa n c] H fun v H' => ∃ b m k R, v = .slice b m k ∧ RdL H' sE 1 b m R ∧ m ≤ k ∧ Rising R ∧ (∀ x, x ∈ R ↔ x ∈ allT ps) ∧ Sub H H' ∧ Off H b := by
  refine merge.vc oa n c H _ (makeMap_mp fun gb hgb => ⟨some gb, rfl, fun k7 hk7 => ?_⟩)
  have hk7g : k7 ≠ gb := fun e => by rw [e, upd_eq] at hk7; cases hk7
  have hk7H : H k7 = none := by rwa [Vx.upd_ne _ _ hk7g] at hk7
  have b7 : Bx ((H.upd gb (.map #[] 0)).upd k7 (.cells #[.map none] 186)) k7 186 [.map none] := Bx.new _ k7 _ _
  refine ⟨_, b7.writes [.map (some gb)] rfl, fun k9 hk9 => ?_⟩
  have b7' := Bx.new ((H.upd gb (.map #[] 0)).upd k7 (.cells #[.map none] 186)) k7 186 [.map (some gb)]
  have mp0 : Mp (((H.upd gb (.map #[] 0)).upd k7 (.cells #[.map none] 186)).upd k7 (.cells [Value.map (some gb)].toArray 186 (0, 0))) gb Value.string vI [] :=
    (Mp.new H gb _ _).mono fun o ho => by rw [Vx.upd_ne _ _ (fun e => hk7g e.symm), Vx.upd_ne _ _ (fun e => hk7g e.symm)]; exact ho
  have s1 : Sub H (((H.upd gb (.map #[] 0)).upd k7 (.cells #[.map none] 186)).upd k7 (.cells [Value.map (some gb)].toArray 186 (0, 0))) := Bx.sub_of ((Sub.upd _ hgb).trans (Sub.upd _ hk7)) hk7H
  generalize ((H.upd gb (.map #[] 0)).upd k7 (.cells #[.map none] 186)).upd k7 (.cells [Value.map (some gb)].toArray 186 (0, 0)) = H1 at *
  have hk97 : k9 ≠ k7 := fun e => by unfold Bx at b7'; rw [e, b7'] at hk9; cases hk9
  have hk9g : k9 ≠ gb := fun e => by obtain ⟨es, cl, g1, _⟩ := mp0.out; rw [e, g1] at hk9; cases hk9
  have hk9H : H k9 = none := by
    cases e : H k9 with
    | none => rfl
    | some o => rw [s1.le _ _ e] at hk9; cases hk9
  have s2 := Sub.upd (.cells #[.slice none 0 0] 49 (0, 0)) hk9
  have b9 := Bx.new H1 k9 49 [.slice none 0 0]
  have b72 := b7'.sub s2
  have mp2 := mp0.mono fun o ho => s2.le gb o ho
  have s12 := s1.trans s2
  generalize hH2 : H1.upd k9 (.cells #[.slice none 0 0] 49 (0, 0)) = H2 at *
  refine each.vc oa n c H2 _ fun k4 hk4 => ⟨_, rfl, ?_⟩
  have b4 := Bx.new H2 k4 185 [.slice oa n c]
  have hk4H : H k4 = none := by
    cases e : H k4 with
    | none => rfl
    | some o => rw [s12.le _ _ e] at hk4; cases hk4
  have hne7 : k4 ≠ k7 := fun e => by unfold Bx at b72; rw [e, b72] at hk4; cases hk4
  have hne9 : k4 ≠ k9 := fun e => by have := b9; unfold Bx at this; rw [← e, hk4] at this; cases this
  have hneg : k4 ≠ gb := fun e => by obtain ⟨es, cl, g1, _⟩ := mp2.out; rw [e, g1] at hk4; cases hk4
  have hF0 : Bx (H.upd k4 (.cells [Value.slice oa n c].toArray 185 (0, 0))) k4 185 [.slice oa n c] := Bx.new H k4 _ _
  have hHF : Sub H (H.upd k4 (.cells [Value.slice oa n c].toArray 185 (0, 0))) := Sub.upd _ hk4H
  have hF7 : (H.upd k4 (.cells [Value.slice oa n c].toArray 185 (0, 0))) k7 = none := by rw [Vx.upd_ne _ _ (fun e => hne7 e.symm)]; exact hk7H
  have hF9 : (H.upd k4 (.cells [Value.slice oa n c].toArray 185 (0, 0))) k9 = none := by rw [Vx.upd_ne _ _ (fun e => hne9 e.symm)]; exact hk9H
  have hFg : (H.upd k4 (.cells [Value.slice oa n c].toArray 185 (0, 0))) gb = none := by rw [Vx.upd_ne _ _ (fun e => hneg e.symm)]; exact hgb
  have hsubF : Sub (H.upd k4 (.cells [Value.slice oa n c].toArray 185 (0, 0))) (H2.upd k4 (.cells [Value.slice oa n c].toArray 185 (0, 0))) := ⟨fun q o hq => by
    by_cases e : q = k4
    · subst e; rw [upd_eq] at hq ⊢; exact hq
    · rw [Vx.upd_ne _ _ e] at hq ⊢; exact s12.le _ _ hq⟩
  generalize hFdef : H.upd k4 (.cells [Value.slice oa n c].toArray 185 (0, 0)) = F at *
  have s4 := Sub.upd (.cells [Value.slice oa n c].toArray 185 (0, 0)) hk4
  have hit := iter_ok (c := c) hF0 (h.mono hHF) hn hps
  have hlen : ((allT ps).map fun s => [Value.string s]).length = (allT ps).length := by simp
  refine ⟨(allT ps).map fun s => [Value.string s], fun i H' => MSt H F H' k7 k9 gb ((allT ps).take i), fun _ _ => False, F, hsubF, hit, ?_, fun i H' hM => hM.sub, ?_, ?_, ?_, trivial, trivial⟩
  · exact ⟨fun x hx => by obtain ⟨s, _, rfl⟩ := List.mem_map.1 hx; rfl⟩
  · refine ⟨hsubF, [], none, 0, 0, [], mp2.mono fun o ho => s4.le _ _ ho, b72.sub s4, ?_, Owns.nil _ _ 1, Off.none _, fun _ e => (by cases e), List.nodup_nil, by simp, by simp, by simp [mlook], by simp [mlook]⟩
    exact b9.sub s4
  · intro s i H5 hnth hM
    obtain ⟨d, ob, m, q, o, h1, h2, h3, h4, h5, h6, h7, h8, h9, h10, h11⟩ := hM.out
    have hs : (allT ps)[i]? = some s := by
      have := hnth.out
      rw [List.getElem?_map] at this
      cases hx : (allT ps)[i]? with
      | none => rw [hx] at this; cases this
      | some y => rw [hx] at this; simp at this; rw [this]
    have hi : i < (allT ps).length := (List.getElem?_eq_some_iff.1 hs).1
    have htk : (allT ps).take (i + 1) = (allT ps).take i ++ [s] := by rw [List.take_add_one, hs]; rfl
    have hdl : ((allT ps).take i).length = i := by rw [List.length_take]; omega
    rw [hdl] at h9 h11
    have hv0 : 0 ≤ (mlook d s).getD 0 ∧ (mlook d s).getD 0 ≤ i ∧ ((mlook d s).getD 0 = 0 ↔ s ∉ (allT ps).take i) := by
      cases hl : mlook d s with
      | none =>
        have : s ∉ (allT ps).take i := fun hm => by have := (h10 s).2 hm; rw [hl] at this; cases this
        simp [this]
      | some v =>
        have h12 := h11 s v hl
        have : s ∈ (allT ps).take i := (h10 s).1 (by rw [hl]; rfl)
        simp only [Option.getD_some]
        exact ⟨by omega, by omega, fun e => by omega, fun e => absurd this e⟩
    have hgd : ∀ x : Option Int, (x.map vI).getD (.int .i64 0) = vI (x.getD 0) := fun x => by cases x <;> rfl
    refine ⟨some gb, h2.reads, map_get mapS h1 ?_⟩
    rw [if_neg (by simp), hgd]
    have ew : IntKind.i64.wrap ((mlook d s).getD 0 + 1) = (mlook d s).getD 0 + 1 := wrap64 (by omega) (by omega)
    refine ⟨_, rfl, ?_⟩
    rw [ew]
    refine map_put (vE := vI) (v := (mlook d s).getD 0 + 1) mapS h1 fun o' hmp => ?_
    have h2' := h2.upd_ne o' hk7g
    have h3' := h3.upd_ne o' hk9g
    have h4' : OwnL (H5.upd gb o') 9 sE 1 ob m q o := Owns.mono h4 fun a x ha hx => by rw [Vx.upd_ne _ _ (h6 a ha).2.2]; exact hx
    have hs5 : Sub F (H5.upd gb o') := Bx.sub_of hM.sub hFg
    generalize H5.upd gb o' = H6 at *
    have hd10 : ∀ x, (mlook (mlay d s ((mlook d s).getD 0 + 1)) x).isSome = true ↔ x ∈ (allT ps).take (i + 1) := fun x => by
      rw [mlook_lay, htk, List.mem_append, ← h10 x]
      split
      · rename_i e; simp [e]
      · rename_i e; simp [e]
    have hd11 : ∀ x v, mlook (mlay d s ((mlook d s).getD 0 + 1)) x = some v → 1 ≤ v ∧ v ≤ ((allT ps).take (i + 1)).length := fun x v hx => by
      rw [mlook_lay] at hx
      rw [htk, List.length_append, hdl, List.length_singleton]
      split at hx
      · injection hx with hx; omega
      · have := h11 x v hx; omega
    refine ⟨some gb, h2'.reads, map_get mapS hmp ?_⟩
    rw [if_neg (by simp), hgd, mlook_lay, if_pos rfl, Option.getD_some]
    refine ⟨_, rfl, fun h1v => ?_, fun h1v => ?_⟩
    · have hnew : s ∉ (allT ps).take i := hv0.2.2.1 (by have : (mlook d s).getD 0 + 1 = 1 := by simpa using h1v
                                                        omega)
      have hom : o.length = m := (h4'.rd (E := sE) (sz := 1) (by omega) sLen).len
      refine ⟨ob, m, q, h3'.reads, fun k3 hk3 => ?_⟩
      refine append_one tStr hk3 (E := sE) (x := s) sLen h4' rfl (sOne s) (by simp [maxLen]; omega) (by omega) ?_
      intro b2 q2 H7 g7 hf7 hfr7 _
      have h2'' := h2'.frame hf7 fun a ha e => (h6 a ha).1 e.symm
      have h3'' := h3'.frame hf7 fun a ha e => (h6 a ha).2.1 e.symm
      have hmp7 : Mp H7 gb Value.string vI (mlay d s ((mlook d s).getD 0 + 1)) := hmp.mono fun x hx => hf7 gb x hx fun a ha e => (h6 a ha).2.2 e.symm
      have hbl : ∀ a, b2 = some a → a.block ≠ k7 ∧ a.block ≠ k9 ∧ a.block ≠ gb := by
        intro a ha
        rcases hfr7 a ha with ⟨a', ha', e⟩ | hno
        · rw [← e]; exact h6 a' ha'
        · refine ⟨fun e => ?_, fun e => ?_, fun e => ?_⟩
          · have := h2'; unfold Bx at this; rw [← e, hno] at this; cases this
          · have := h3'; unfold Bx at this; rw [← e, hno] at this; cases this
          · obtain ⟨es, cl, g1, _⟩ := hmp.out; rw [← e, hno] at g1; cases g1
      refine ⟨b2, m + 1, q2, rfl, _, h3''.writes [.slice b2 (m + 1) q2] rfl, Bx.sub_of (hf7.sub hs5 h5) hF9, mlay d s ((mlook d s).getD 0 + 1), b2, m + 1, q2, o ++ [s], hmp7.mono fun x hx => by rw [Vx.upd_ne _ _ (fun e => hk9g e.symm)]; exact hx, h2''.upd_ne _ (fun e => hk97 e.symm), Bx.new _ k9 _ _, Owns.mono g7 fun a x ha hx => by rw [Vx.upd_ne _ _ (hbl a ha).2.1]; exact hx, hfr7.off hs5 h5, hbl, nodup_snoc h7 (fun hm => hnew ((h8 s).1 hm)), fun x => ?_, ?_, hd10, hd11⟩
      · rw [htk, List.mem_append, List.mem_append, h8]
      · rw [htk, List.length_append, List.length_append, hdl]; simp; omega
    · have hold : s ∈ (allT ps).take i := Classical.byContradiction fun hno => by
        have := hv0.2.2.2 hno
        rw [this] at h1v
        simp at h1v
      refine ⟨hs5, _, ob, m, q, o, hmp, h2', h3', h4', h5, h6, h7, fun x => ?_, ?_, hd10, hd11⟩
      · rw [htk, List.mem_append, h8]
        constructor
        · exact .inl
        · rintro (hx | hx)
          · exact hx
          · simp at hx; rw [hx]; exact hold
      · rw [htk, List.length_append, hdl]; omega
  · intro H5 hM
    rw [hlen, List.take_of_length_le (Nat.le_refl _)] at hM
    obtain ⟨d, ob, m, q, o, h1, h2, h3, h4, h5, h6, h7, h8, h9, h10, h11⟩ := hM.out
    have hom : o.length = m := (h4.rd (E := sE) (sz := 1) (by omega) sLen).len
    refine ⟨ob, m, q, h3.reads, ?_⟩
    have h4' : Owns H5 9 1 ob m q ((o.map ofB).map (fun l : List UInt8 => Value.string ⟨l.toArray⟩)) := by rw [← flat_str]; exact h4
    refine (sort_ok sortS h4' (by omega)).mono ?_
    rintro _ H6 ⟨rfl, g6, hf6⟩
    rw [flat_back] at g6
    have hR := sorted_rising h7
    exact ⟨rfl, ob, m, q, (h3.frame hf6 fun a ha e => (h6 a ha).2.1 e.symm).reads, ob, m, q, _, rfl, Owns.rd (E := sE) (sz := 1) (by omega) sLen g6, h4.le, hR.1, fun x => (hR.2 x).trans (h8 x), hHF.trans (hf6.sub hM.sub h5), fun a ha => by
      have := h5 a ha
      cases hh : H a.block with
      | none => rfl
      | some o => rw [hHF.le _ _ hh] at this; cases this⟩
end Go.Lab
namespace Go.Vc
open Go.Vx Go
def pAfter.cx : Cx := ⟨[], [], [], []⟩
def pNames.cx : Cx := ⟨[], [], [], []⟩
def pSus.cx : Cx := ⟨[], [], [], []⟩
def pEnough.cx : Cx := ⟨[], [(5, [7, 20], [])], [], []⟩
def pTurn.cx : Cx := ⟨[5, 6], [(7, [21], []), (15, [51], [])], [], []⟩
def pTurn1.cx : Cx := ⟨[], [], [], []⟩
def pTurn2.cx : Cx := ⟨[], [], [], []⟩
def listed.cx : Cx := ⟨[], [], [], []⟩
def listed1.cx : Cx := ⟨[], [], [], []⟩
def state.cx : Cx := ⟨[], [], [], []⟩
def whole.cx : Cx := ⟨[], [], [], []⟩
def maxS.cx : Cx := ⟨[], [(5, [3, 4], [])], [], []⟩
def delS.cx : Cx := ⟨[], [(5, [5, 6], [])], [], []⟩
def idxFS.cx : Cx := ⟨[], [(2, [8], [])], [], []⟩
def cloneS.cx : Cx := ⟨[], [], [], []⟩
theorem pAfter.vc (a1 : Option Addr) (H : PHeap) (Q : Value → PHeap → Prop)
 (h : (a1.isNone = true → Q (Value.string ({ data := #[] } : ByteArray)) H) ∧ (a1.isNone = false → Ob (a1 ≠ none) ∧ Ob (a1 ≠ none) ∧ ∃ s2, Reads H (fldA a1 1) [Value.string s2] ∧ Q (Value.string s2) H)) :
 Triple Go.Proofs.Tryz.prog 55 ([Value.pointer a1]).toArray H Q :=
 Triple.of_vc pAfter.cx (by kernel_rfl) h
theorem pNames.vc (a1 : Option Addr) (H : PHeap) (Q : Value → PHeap → Prop)
 (h : (a1.isNone = true → Q (Value.slice none 0 0) H) ∧
 (a1.isNone = false →
 Ob (a1 ≠ none) ∧
 Ob (a1 ≠ none) ∧
 ∃ a2 k3 k4, Reads H (fldA a1 0) [Value.slice a2 k3 k4] ∧ Triple Proofs.Tryz.prog 130 #[Value.slice a2 k3 k4] H fun v5 H6 => ∃ a7 k8 k9, v5 = Value.slice a7 k8 k9 ∧ Q (Value.slice a7 k8 k9) H6)) :
 Triple Go.Proofs.Tryz.prog 89 ([Value.pointer a1]).toArray H Q :=
 Triple.of_vc pNames.cx (by kernel_rfl) h
theorem pSus.vc (a1 : Option Addr) (H : PHeap) (Q : Value → PHeap → Prop)
 (h : (a1.isNone = true → Q (Value.slice none 0 0) H) ∧
 (a1.isNone = false →
 Ob (a1 ≠ none) ∧
 Ob (a1 ≠ none) ∧
 ∃ a2 k3 k4, Reads H (fldA a1 2) [Value.slice a2 k3 k4] ∧ Triple Proofs.Tryz.prog 133 #[Value.slice a2 k3 k4] H fun v5 H6 => ∃ a7 k8 k9, v5 = Value.slice a7 k8 k9 ∧ Q (Value.slice a7 k8 k9) H6)) :
 Triple Go.Proofs.Tryz.prog 90 ([Value.pointer a1]).toArray H Q :=
 Triple.of_vc pSus.cx (by kernel_rfl) h
theorem pEnough.vc (a1 : Option Addr) (n2 : Int) (n3 : Int) (n4 : Int) (n5 : Int) (n6 : Int) (n7 : Int) (a8 : Option Addr) (k9 : Nat) (k10 : Nat) (H : PHeap) (Q : Value → PHeap → Prop)
 (h : (a1.isNone = false →
 Triple Proofs.Tryz.prog 19
 #[Value.agg #[Value.int IntKind.i64 n2, Value.int IntKind.i64 n3, Value.int IntKind.i64 n4, Value.int IntKind.i64 n5, Value.int IntKind.i64 n6, Value.int IntKind.i64 n7]] H fun v11 H12 =>
 ∃ b13,
 v11 = Value.bool b13 ∧
 ((!b13) = true → Q (Value.bool false) H12) ∧
 ((!b13) = false →
 Triple Proofs.Tryz.prog 122 #[Value.slice a8 k9 k10] H12 fun v14 H15 =>
 ∃ a16 k17 k18,
 v14 = Value.slice a16 k17 k18 ∧
 ∃ (R19 : Rl) (M20 : Mu),
 R19 [Value.int IntKind.i64 0, Value.int IntKind.i64 0] H15 ∧
 ∀ (n21 n22 : Int) (H23 : PHeap),
 R19 [Value.int IntKind.i64 n21, Value.int IntKind.i64 n22] H23 →
 (decide (n22 < (↑k17 : Int)) = true →
 Ob (a16 ≠ none ∧ 0 ≤ n22 ∧ n22 < (↑k17 : Int)) ∧
 ∃ n24 n25 n26 n27 s28 n29 n30 n31 n32 n33 a34 k35 k36 a37 k38 k39 a40 k41 k42,
 Reads H23 (elemA a16 n22 13)
 [Value.int IntKind.i64 n24, Value.int IntKind.i64 n25, Value.int IntKind.i64 n26, Value.int IntKind.i64 n27, Value.string s28, Value.int IntKind.i64 n29,
 Value.int IntKind.i64 n30, Value.int IntKind.i64 n31, Value.int IntKind.i64 n32, Value.int IntKind.i64 n33, Value.slice a34 k35 k36, Value.slice a37 k38 k39,
 Value.slice a40 k41 k42] ∧
 Triple Proofs.Tryz.prog 123
 #[Value.agg
 #[Value.int IntKind.i64 n24, Value.int IntKind.i64 n25, Value.int IntKind.i64 n26, Value.int IntKind.i64 n27, Value.string s28, Value.int IntKind.i64 n29,
 Value.int IntKind.i64 n30, Value.int IntKind.i64 n31, Value.int IntKind.i64 n32, Value.int IntKind.i64 n33, Value.slice a34 k35 k36,
 Value.slice a37 k38 k39, Value.slice a40 k41 k42]]
 H23 fun v43 H44 =>
 ∃ n45,
 v43 = Value.int IntKind.i64 n45 ∧
 R19 [Value.int IntKind.i64 (bif n45 == 1 then IntKind.i64.wrap (n21 + 1) else n21), Value.int IntKind.i64 (IntKind.i64.wrap (n22 + 1))] H44 ∧
 Less (M20 [Value.int IntKind.i64 (bif n45 == 1 then IntKind.i64.wrap (n21 + 1) else n21), Value.int IntKind.i64 (IntKind.i64.wrap (n22 + 1))] H44)
 (M20 [Value.int IntKind.i64 n21, Value.int IntKind.i64 n22] H23)) ∧
 (decide (n22 < (↑k17 : Int)) = false →
 Triple Proofs.Tryz.prog 124
 #[Value.agg
 #[Value.int IntKind.i64 n2, Value.int IntKind.i64 n3, Value.int IntKind.i64 n4, Value.int IntKind.i64 n5, Value.int IntKind.i64 n6, Value.int IntKind.i64 n7]]
 H23 fun v46 H47 => ∃ n48, v46 = Value.int IntKind.i64 n48 ∧ Q (Value.bool (decide (n21 ≥ n48))) H47))) ∧
 (a1.isNone = !false → Q (Value.bool false) H)) :
 Triple Go.Proofs.Tryz.prog 87 ([Value.pointer a1, Value.agg #[Value.int IntKind.i64 n2, Value.int IntKind.i64 n3, Value.int IntKind.i64 n4, Value.int IntKind.i64 n5, Value.int IntKind.i64 n6, Value.int IntKind.i64 n7],
 Value.slice a8 k9 k10]).toArray H Q :=
 Triple.of_vc pEnough.cx (by kernel_rfl) h
theorem pTurn.vc (a1 : Option Addr) (a2 : Option Addr) (k3 : Nat) (k4 : Nat) (H : PHeap) (Q : Value → PHeap → Prop)
 (h : (a1.isNone = true → Q (Value.bool false) H) ∧
 (a1.isNone = false →
 ∀ (k5 : Nat),
 H k5 = none →
 ∀ (k6 : Nat),
 H.upd k5 (Obj.cells #[Value.string ({ data := #[] } : ByteArray)] 9) k6 = none →
 ∃ H7,
 Writes ((H.upd k5 (Obj.cells #[Value.string ({ data := #[] } : ByteArray)] 9)).upd k6 (Obj.cells #[Value.bool false] 4)) H7 (at0 k5) [Value.string ({ data := #[] } : ByteArray)] ∧
 ∃ H8,
 Writes H7 H8 (at0 k6) [Value.bool true] ∧
 Triple Proofs.Tryz.prog 122 #[Value.slice a2 k3 k4] H8 fun v9 H10 =>
 ∃ a11 k12 k13,
 v9 = Value.slice a11 k12 k13 ∧
 ∃ (R14 : Rl) (M15 : Mu),
 R14 [Value.int IntKind.i64 0] H10 ∧
 ∀ (n16 : Int) (H17 : PHeap),
 R14 [Value.int IntKind.i64 n16] H17 →
 (decide (n16 < (↑k12 : Int)) = true →
 Ob (a11 ≠ none ∧ 0 ≤ n16 ∧ n16 < (↑k12 : Int)) ∧
 ∃ n18 n19 n20 n21 s22 n23 n24 n25 n26 n27 a28 k29 k30 a31 k32 k33 a34 k35 k36,
 Reads H17 (elemA a11 n16 13)
 [Value.int IntKind.i64 n18, Value.int IntKind.i64 n19, Value.int IntKind.i64 n20, Value.int IntKind.i64 n21, Value.string s22, Value.int IntKind.i64 n23,
 Value.int IntKind.i64 n24, Value.int IntKind.i64 n25, Value.int IntKind.i64 n26, Value.int IntKind.i64 n27, Value.slice a28 k29 k30,
 Value.slice a31 k32 k33, Value.slice a34 k35 k36] ∧
 Triple Proofs.Tryz.prog 123
 #[Value.agg
 #[Value.int IntKind.i64 n18, Value.int IntKind.i64 n19, Value.int IntKind.i64 n20, Value.int IntKind.i64 n21, Value.string s22,
 Value.int IntKind.i64 n23, Value.int IntKind.i64 n24, Value.int IntKind.i64 n25, Value.int IntKind.i64 n26, Value.int IntKind.i64 n27,
 Value.slice a28 k29 k30, Value.slice a31 k32 k33, Value.slice a34 k35 k36]]
 H17 fun v37 H38 =>
 ∃ n39,
 v37 = Value.int IntKind.i64 n39 ∧
 ((n39 == 2) = true →
 ∃ H40,
 Vx.Sub H40 H38 ∧
 Ob (a1 ≠ none) ∧
 Ob (a1 ≠ none) ∧
 ∃ a41 k42 k43,
 Reads H40 (fldA a1 2) [Value.slice a41 k42 k43] ∧
 ∀ (k44 : Nat),
 H38 k44 = none →
 Vx.Sub H40 (H38.upd k44 (Obj.cells #[Value.int IntKind.i64 n19] 3)) ∧
 EvV Proofs.Tryz.prog
 (Builtin.append_ #[42, 42] 42 #[Value.slice a41 k42 k43, Value.slice (at0 k44) 1 1])
 (H38.upd k44 (Obj.cells #[Value.int IntKind.i64 n19] 3)) fun v45 H46 =>
 ∃ a47 k48 k49,
 v45 = Value.slice a47 k48 k49 ∧
 Triple Proofs.Tryz.prog 61 #[Value.slice a47 k48 k49, Value.slice none 0 0] H46 fun v50 H51 =>
 ∃ a52 k53 k54,
 v50 = Value.slice a52 k53 k54 ∧
 Ob (a1 ≠ none) ∧
 Ob (a1 ≠ none) ∧
 ∃ H55,
 Writes H51 H55 (fldA a1 2) [Value.slice a52 k53 k54] ∧
 Triple Proofs.Tryz.prog 127
 #[Value.agg
 #[Value.int IntKind.i64 n18, Value.int IntKind.i64 n19, Value.int IntKind.i64 n20,
 Value.int IntKind.i64 n21, Value.string s22, Value.int IntKind.i64 n23, Value.int IntKind.i64 n24,
 Value.int IntKind.i64 n25, Value.int IntKind.i64 n26, Value.int IntKind.i64 n27,
 Value.slice a28 k29 k30, Value.slice a31 k32 k33, Value.slice a34 k35 k36]]
 H55 fun v56 H57 =>
 ∃ b58,
 v56 = Value.bool b58 ∧
 ((!b58) = true →
 Triple Proofs.Tryz.prog 128 #[Value.slice a31 k32 k33] H57 fun v59 H60 =>
 ∃ s61,
 v59 = Value.string s61 ∧
 Triple Proofs.Tryz.prog 125
 #[Value.string s61, Value.pointer (at0 k6),
 Value.pointer (at0 k5)]
 H60 fun v62 H63 =>
 v62 = Value.tuple #[] ∧
 R14 [Value.int IntKind.i64 (IntKind.i64.wrap (n16 + 1))] H63 ∧
 Less (M15 [Value.int IntKind.i64 (IntKind.i64.wrap (n16 + 1))] H63)
 (M15 [Value.int IntKind.i64 n16] H17)) ∧
 ((!b58) = false →
 R14 [Value.int IntKind.i64 (IntKind.i64.wrap (n16 + 1))] H57 ∧
 Less (M15 [Value.int IntKind.i64 (IntKind.i64.wrap (n16 + 1))] H57)
 (M15 [Value.int IntKind.i64 n16] H17))) ∧
 ((n39 == 2) = false →
 Triple Proofs.Tryz.prog 127
 #[Value.agg
 #[Value.int IntKind.i64 n18, Value.int IntKind.i64 n19, Value.int IntKind.i64 n20, Value.int IntKind.i64 n21, Value.string s22,
 Value.int IntKind.i64 n23, Value.int IntKind.i64 n24, Value.int IntKind.i64 n25, Value.int IntKind.i64 n26, Value.int IntKind.i64 n27,
 Value.slice a28 k29 k30, Value.slice a31 k32 k33, Value.slice a34 k35 k36]]
 H38 fun v64 H65 =>
 ∃ b66,
 v64 = Value.bool b66 ∧
 ((!b66) = true →
 Triple Proofs.Tryz.prog 128 #[Value.slice a31 k32 k33] H65 fun v67 H68 =>
 ∃ s69,
 v67 = Value.string s69 ∧
 Triple Proofs.Tryz.prog 125
 #[Value.string s69, Value.pointer (at0 k6), Value.pointer (at0 k5)] H68
 fun v70 H71 =>
 v70 = Value.tuple #[] ∧
 R14 [Value.int IntKind.i64 (IntKind.i64.wrap (n16 + 1))] H71 ∧
 Less (M15 [Value.int IntKind.i64 (IntKind.i64.wrap (n16 + 1))] H71) (M15 [Value.int IntKind.i64 n16] H17)) ∧
 ((!b66) = false →
 R14 [Value.int IntKind.i64 (IntKind.i64.wrap (n16 + 1))] H65 ∧
 Less (M15 [Value.int IntKind.i64 (IntKind.i64.wrap (n16 + 1))] H65) (M15 [Value.int IntKind.i64 n16] H17)))) ∧
 (decide (n16 < (↑k12 : Int)) = false →
 ∃ (R72 : Rl) (M73 : Mu),
 R72 [Value.int IntKind.i64 0] H17 ∧
 ∀ (n74 : Int) (H75 : PHeap),
 R72 [Value.int IntKind.i64 n74] H75 →
 (decide (n74 < (↑k12 : Int)) = true →
 Ob (a11 ≠ none ∧ 0 ≤ n74 ∧ n74 < (↑k12 : Int)) ∧
 ∃ n76 n77 n78 n79 s80 n81 n82 n83 n84 n85 a86 k87 k88 a89 k90 k91 a92 k93 k94,
 Reads H75 (elemA a11 n74 13)
 [Value.int IntKind.i64 n76, Value.int IntKind.i64 n77, Value.int IntKind.i64 n78, Value.int IntKind.i64 n79, Value.string s80,
 Value.int IntKind.i64 n81, Value.int IntKind.i64 n82, Value.int IntKind.i64 n83, Value.int IntKind.i64 n84, Value.int IntKind.i64 n85,
 Value.slice a86 k87 k88, Value.slice a89 k90 k91, Value.slice a92 k93 k94] ∧
 Triple Proofs.Tryz.prog 130 #[Value.slice a89 k90 k91] H75 fun v95 H96 =>
 ∃ a97 k98 k99,
 v95 = Value.slice a97 k98 k99 ∧
 Triple Proofs.Tryz.prog 129
 #[Value.slice a97 k98 k99,
 Value.func (Fn.func 131) #[] #[Value.pointer (at0 k6), Value.pointer (at0 k5)]]
 H96 fun v100 H101 =>
 ∃ a102 k103 k104,
 v100 = Value.slice a102 k103 k104 ∧
 Ob (a1 ≠ none) ∧
 Ob (a1 ≠ none) ∧
 ∃ a105 k106 k107,
 Reads H101 (fldA a1 0) [Value.slice a105 k106 k107] ∧
 ∀ (k108 : Nat),
 H101 k108 = none →
 Triple Proofs.Tryz.prog 132 #[Value.slice (at0 k108) 2 2]
 (H101.upd k108 (Obj.cells #[Value.slice a105 k106 k107, Value.slice a102 k103 k104] 49)) fun v109 H110 =>
 ∃ a111 k112 k113,
 v109 = Value.slice a111 k112 k113 ∧
 Ob (a1 ≠ none) ∧
 Ob (a1 ≠ none) ∧
 ∃ H114,
 Writes H110 H114 (fldA a1 0) [Value.slice a111 k112 k113] ∧
 R72 [Value.int IntKind.i64 (IntKind.i64.wrap (n74 + 1))] H114 ∧
 Less (M73 [Value.int IntKind.i64 (IntKind.i64.wrap (n74 + 1))] H114)
 (M73 [Value.int IntKind.i64 n74] H75)) ∧
 (decide (n74 < (↑k12 : Int)) = false →
 ∃ b115,
 Reads H75 (at0 k6) [Value.bool b115] ∧
 ((!b115) = true →
 ∃ s116,
 Reads H75 (at0 k5) [Value.string s116] ∧
 Ob (a1 ≠ none) ∧
 Ob (a1 ≠ none) ∧
 ∃ H117,
 Writes H75 H117 (fldA a1 1) [Value.string s116] ∧
 ∃ b118, Reads H117 (at0 k6) [Value.bool b118] ∧ Q (Value.bool b118) H117) ∧
 ((!b115) = false → ∃ b119, Reads H75 (at0 k6) [Value.bool b119] ∧ Q (Value.bool b119) H75))))) :
 Triple Go.Proofs.Tryz.prog 88 ([Value.pointer a1, Value.slice a2 k3 k4]).toArray H Q :=
 Triple.of_vc pTurn.cx (by kernel_rfl) h
theorem pTurn1.vc (s1 : ByteArray) (a2 : Option Addr) (a3 : Option Addr) (H : PHeap) (Q : Value → PHeap → Prop)
 (h : ∃ b4,
 Reads H a2 [Value.bool b4] ∧
 (b4 = false →
 ∃ s5,
 Reads H a3 [Value.string s5] ∧
 Triple Proofs.Tryz.prog 126 #[Value.string s1, Value.string s5] H fun v6 H7 =>
 ∃ b8,
 v6 = Value.bool b8 ∧
 (b8 = true → ∃ H9, Writes H7 H9 a3 [Value.string s1] ∧ ∃ H10, Writes H9 H10 a2 [Value.bool false] ∧ Q (Value.tuple #[]) H10) ∧ (b8 = false → Q (Value.tuple #[]) H7)) ∧
 (b4 = !false → ∃ H11, Writes H H11 a3 [Value.string s1] ∧ ∃ H12, Writes H11 H12 a2 [Value.bool false] ∧ Q (Value.tuple #[]) H12)) :
 Triple Go.Proofs.Tryz.prog 125 ([Value.string s1, Value.pointer a2, Value.pointer a3]).toArray H Q :=
 Triple.of_vc pTurn1.cx (by kernel_rfl) h
theorem pTurn2.vc (s1 : ByteArray) (a2 : Option Addr) (a3 : Option Addr) (H : PHeap) (Q : Value → PHeap → Prop)
 (h : ∃ b4,
 Reads H a2 [Value.bool b4] ∧
 ((!b4) = true → ∃ s5, Reads H a3 [Value.string s5] ∧ Triple Proofs.Tryz.prog 126 #[Value.string s5, Value.string s1] H fun v6 H7 => ∃ b8, v6 = Value.bool b8 ∧ Q (Value.bool b8) H7) ∧
 ((!b4) = !true → Q (Value.bool false) H)) :
 Triple Go.Proofs.Tryz.prog 131 ([Value.string s1, Value.pointer a2, Value.pointer a3]).toArray H Q :=
 Triple.of_vc pTurn2.cx (by kernel_rfl) h
theorem listed.vc (a1 : Option Addr) (k2 : Nat) (k3 : Nat) (H : PHeap) (Q : Value → PHeap → Prop)
 (h : Triple Proofs.Tryz.prog 106 #[Value.slice a1 k2 k3] H fun v4 H5 =>
 ∃ a6 k7 k8,
 v4 = Value.slice a6 k7 k8 ∧
 Triple Proofs.Tryz.prog 70 #[Value.slice a6 k7 k8, Value.func (Fn.func 149) #[] #[]] H5 fun v9 H10 => ∃ a11 k12 k13, v9 = Value.slice a11 k12 k13 ∧ Q (Value.slice a11 k12 k13) H10) :
 Triple Go.Proofs.Tryz.prog 122 ([Value.slice a1 k2 k3]).toArray H Q :=
 Triple.of_vc listed.cx (by kernel_rfl) h
theorem listed1.vc (n1 : Int) (n2 : Int) (n3 : Int) (n4 : Int) (s5 : ByteArray) (n6 : Int) (n7 : Int) (n8 : Int) (n9 : Int) (n10 : Int) (a11 : Option Addr) (k12 : Nat) (k13 : Nat) (a14 : Option Addr) (k15 : Nat) (k16 : Nat) (a17 : Option Addr) (k18 : Nat) (k19 : Nat) (H : PHeap) (Q : Value → PHeap → Prop)
 (h : Q (Value.bool (n1 != 20)) H) :
 Triple Go.Proofs.Tryz.prog 149 ([Value.agg
 #[Value.int IntKind.i64 n1, Value.int IntKind.i64 n2, Value.int IntKind.i64 n3, Value.int IntKind.i64 n4, Value.string s5, Value.int IntKind.i64 n6, Value.int IntKind.i64 n7,
 Value.int IntKind.i64 n8, Value.int IntKind.i64 n9, Value.int IntKind.i64 n10, Value.slice a11 k12 k13, Value.slice a14 k15 k16, Value.slice a17 k18 k19]]).toArray H Q :=
 Triple.of_vc listed1.cx (by kernel_rfl) h
theorem state.vc (n1 : Int) (n2 : Int) (n3 : Int) (n4 : Int) (s5 : ByteArray) (n6 : Int) (n7 : Int) (n8 : Int) (n9 : Int) (n10 : Int) (a11 : Option Addr) (k12 : Nat) (k13 : Nat) (a14 : Option Addr) (k15 : Nat) (k16 : Nat) (a17 : Option Addr) (k18 : Nat) (k19 : Nat) (H : PHeap) (Q : Value → PHeap → Prop)
 (h : (((↑k12 : Int) == 0) = true → Q (Value.int IntKind.i64 0) H) ∧
 (((↑k12 : Int) == 0) = false → Ob (a11 ≠ none ∧ (0 : Int) ≤ 0 ∧ 0 < (↑k12 : Int)) ∧ ∃ n20, Reads H (elemA a11 0 1) [Value.int IntKind.i64 n20] ∧ Q (Value.int IntKind.i64 n20) H)) :
 Triple Go.Proofs.Tryz.prog 123 ([Value.agg
 #[Value.int IntKind.i64 n1, Value.int IntKind.i64 n2, Value.int IntKind.i64 n3, Value.int IntKind.i64 n4, Value.string s5, Value.int IntKind.i64 n6, Value.int IntKind.i64 n7,
 Value.int IntKind.i64 n8, Value.int IntKind.i64 n9, Value.int IntKind.i64 n10, Value.slice a11 k12 k13, Value.slice a14 k15 k16, Value.slice a17 k18 k19]]).toArray H Q :=
 Triple.of_vc state.cx (by kernel_rfl) h
theorem whole.vc (n1 : Int) (n2 : Int) (n3 : Int) (n4 : Int) (s5 : ByteArray) (n6 : Int) (n7 : Int) (n8 : Int) (n9 : Int) (n10 : Int) (a11 : Option Addr) (k12 : Nat) (k13 : Nat) (a14 : Option Addr) (k15 : Nat) (k16 : Nat) (a17 : Option Addr) (k18 : Nat) (k19 : Nat) (H : PHeap) (Q : Value → PHeap → Prop)
 (h : Q (Value.bool (bif n10 == 1 then true else (↑k15 : Int) == 0)) H) :
 Triple Go.Proofs.Tryz.prog 127 ([Value.agg
 #[Value.int IntKind.i64 n1, Value.int IntKind.i64 n2, Value.int IntKind.i64 n3, Value.int IntKind.i64 n4, Value.string s5, Value.int IntKind.i64 n6, Value.int IntKind.i64 n7,
 Value.int IntKind.i64 n8, Value.int IntKind.i64 n9, Value.int IntKind.i64 n10, Value.slice a11 k12 k13, Value.slice a14 k15 k16, Value.slice a17 k18 k19]]).toArray H Q :=
 Triple.of_vc whole.cx (by kernel_rfl) h
theorem maxS.vc (a1 : Option Addr) (k2 : Nat) (k3 : Nat) (H : PHeap) (Q : Value → PHeap → Prop)
 (h : (decide ((↑k2 : Int) < 1) = true → False) ∧
 (decide ((↑k2 : Int) < 1) = false →
 Ob (a1 ≠ none ∧ (0 : Int) ≤ 0 ∧ 0 < (↑k2 : Int)) ∧
 ∃ s4,
 Reads H (elemA a1 0 1) [Value.string s4] ∧
 ∃ (R5 : Rl) (M6 : Mu),
 R5 [Value.string s4, Value.int IntKind.i64 1] H ∧
 ∀ (s7 : ByteArray) (n8 : Int) (H9 : PHeap),
 R5 [Value.string s7, Value.int IntKind.i64 n8] H9 →
 (decide (n8 < (↑k2 : Int)) = true →
 Ob (a1 ≠ none ∧ 0 ≤ n8 ∧ n8 < (↑k2 : Int)) ∧
 ∃ s10,
 Reads H9 (elemA a1 n8 1) [Value.string s10] ∧
 R5 [Value.string (maxT s7 s10), Value.int IntKind.i64 (IntKind.i64.wrap (n8 + 1))] H9 ∧
 Less (M6 [Value.string (maxT s7 s10), Value.int IntKind.i64 (IntKind.i64.wrap (n8 + 1))] H9) (M6 [Value.string s7, Value.int IntKind.i64 n8] H9)) ∧
 (decide (n8 < (↑k2 : Int)) = false → Q (Value.string s7) H9))) :
 Triple Go.Proofs.Tryz.prog 128 ([Value.slice a1 k2 k3]).toArray H Q :=
 Triple.of_vc maxS.cx (by kernel_rfl) h
theorem delS.vc (a1 : Option Addr) (k2 : Nat) (k3 : Nat) (v4 : Value) (H : PHeap) (Q : Value → PHeap → Prop)
 (h : Triple Proofs.Tryz.prog 151 #[Value.slice a1 k2 k3, v4] H fun v5 H6 =>
 ∃ n7,
 v5 = Value.int IntKind.i64 n7 ∧
 ((n7 == -1) = true → Q (Value.slice a1 k2 k3) H6) ∧
 ((n7 == -1) = false →
 ∃ (R8 : Rl) (M9 : Mu),
 R8 [Value.int IntKind.i64 n7, Value.int IntKind.i64 (IntKind.i64.wrap (n7 + 1))] H6 ∧
 ∀ (n10 n11 : Int) (H12 : PHeap),
 R8 [Value.int IntKind.i64 n10, Value.int IntKind.i64 n11] H12 →
 (decide (n11 < (↑k2 : Int)) = true →
 Ob (a1 ≠ none ∧ 0 ≤ n11 ∧ n11 < (↑k2 : Int)) ∧
 ∃ s13,
 Reads H12 (elemA a1 n11 1) [Value.string s13] ∧
 CallY Proofs.Tryz.prog v4 #[Value.string s13] H12 fun v14 H15 =>
 ∃ b16,
 v14 = Value.bool b16 ∧
 ((!b16) = true →
 Ob (a1 ≠ none ∧ 0 ≤ n10 ∧ n10 < (↑k2 : Int)) ∧
 ∃ H17,
 Writes H15 H17 (elemA a1 n10 1) [Value.string s13] ∧
 R8 [Value.int IntKind.i64 (IntKind.i64.wrap (n10 + 1)), Value.int IntKind.i64 (IntKind.i64.wrap (n11 + 1))] H17 ∧
 Less (M9 [Value.int IntKind.i64 (IntKind.i64.wrap (n10 + 1)), Value.int IntKind.i64 (IntKind.i64.wrap (n11 + 1))] H17)
 (M9 [Value.int IntKind.i64 n10, Value.int IntKind.i64 n11] H12)) ∧
 ((!b16) = false →
 R8 [Value.int IntKind.i64 n10, Value.int IntKind.i64 (IntKind.i64.wrap (n11 + 1))] H15 ∧
 Less (M9 [Value.int IntKind.i64 n10, Value.int IntKind.i64 (IntKind.i64.wrap (n11 + 1))] H15)
 (M9 [Value.int IntKind.i64 n10, Value.int IntKind.i64 n11] H12))) ∧
 (decide (n11 < (↑k2 : Int)) = false →
 Ob (0 ≤ n10 ∧ n10 ≤ (↑k2 : Int) ∧ (↑k2 : Int) ≤ (↑k3 : Int)) ∧
 EvV Proofs.Tryz.prog (Builtin.clear_ #[49] 0 #[Value.slice (slA a1 n10 k3 1) ((↑k2 : Int).toNat - n10.toNat) (k3 - n10.toNat)]) H12 fun v18 H19 =>
 Ob ((0 : Int) ≤ 0 ∧ 0 ≤ n10 ∧ n10 ≤ (↑k3 : Int)) ∧ Q (Value.slice (slA a1 0 k3 1) (n10.toNat - Int.toNat 0) (k3 - Int.toNat 0)) H19))) :
 Triple Go.Proofs.Tryz.prog 129 ([Value.slice a1 k2 k3, v4]).toArray H Q :=
 Triple.of_vc delS.cx (by kernel_rfl) h
theorem idxFS.vc (a1 : Option Addr) (k2 : Nat) (k3 : Nat) (v4 : Value) (H : PHeap) (Q : Value → PHeap → Prop)
 (h : ∃ (R5 : Rl) (M6 : Mu),
 R5 [Value.int IntKind.i64 0] H ∧
 ∀ (n7 : Int) (H8 : PHeap),
 R5 [Value.int IntKind.i64 n7] H8 →
 (decide (n7 < (↑k2 : Int)) = true →
 Ob (a1 ≠ none ∧ 0 ≤ n7 ∧ n7 < (↑k2 : Int)) ∧
 ∃ s9,
 Reads H8 (elemA a1 n7 1) [Value.string s9] ∧
 CallY Proofs.Tryz.prog v4 #[Value.string s9] H8 fun v10 H11 =>
 ∃ b12,
 v10 = Value.bool b12 ∧
 (b12 = true → Q (Value.int IntKind.i64 n7) H11) ∧
 (b12 = false →
 R5 [Value.int IntKind.i64 (IntKind.i64.wrap (n7 + 1))] H11 ∧ Less (M6 [Value.int IntKind.i64 (IntKind.i64.wrap (n7 + 1))] H11) (M6 [Value.int IntKind.i64 n7] H8))) ∧
 (decide (n7 < (↑k2 : Int)) = false → Q (Value.int IntKind.i64 (-1)) H8)) :
 Triple Go.Proofs.Tryz.prog 151 ([Value.slice a1 k2 k3, v4]).toArray H Q :=
 Triple.of_vc idxFS.cx (by kernel_rfl) h
theorem cloneS.vc (a1 : Option Addr) (k2 : Nat) (k3 : Nat) (H : PHeap) (Q : Value → PHeap → Prop)
 (h : (a1.isNone = true → Q (Value.slice none 0 0) H) ∧
 (a1.isNone = false →
 ∀ (k4 : Nat),
 H k4 = none →
 EvV Proofs.Tryz.prog (Builtin.append_ #[49, 49] 49 #[Value.slice (at0 k4) 0 0, Value.slice a1 k2 k3]) (H.upd k4 (Obj.cells #[] 9)) fun v5 H6 =>
 ∃ a7 k8 k9, v5 = Value.slice a7 k8 k9 ∧ Q (Value.slice a7 k8 k9) H6)) :
 Triple Go.Proofs.Tryz.prog 130 ([Value.slice a1 k2 k3]).toArray H Q :=
 Triple.of_vc cloneS.cx (by kernel_rfl) h
end Go.Vc
