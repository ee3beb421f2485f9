/- The document's agreement: what comes, and time; what is small; and its comparison. -/
import Derived.Test.YthcfmcmmmpfjoaaAgrU
namespace Go.Agr
open Go.Vx Go.Vc Go.Proofs Go.Pln Go.Stl
open Go.Rnd (takesG insG froms againG RdR RV OkM AscG)

theorem Inv.got {F : PHeap} {s : St} {m : Msg} (h : Inv F s) (hm : OkM F m) (ht : takesG s.wait s.G m = true) : Inv F (s.got m) := by
  obtain ⟨n1, n2⟩ := takes_new ht
  refine ⟨h.pok, h.wt, fun y hy => ?_, Rnd.ins_asc h.asc n2, fun y hy => ?_, h.okS⟩
  · rcases Rnd.mem_ins.1 hy with hy | hy
    · exact h.gin y hy
    · rw [hy]; show Rnd.from_ m ∈ ids s.p; rw [← h.wt]; exact n1
  · rcases Rnd.mem_ins.1 hy with hy | hy
    · exact h.okG y hy
    · rw [hy]; exact hm
theorem raTake_ok {H : PHeap} {s : St} {u : Value} {m : Msg} (hA : RefA H u s) (hm : OkM H m) : Triple Try.prog 16 #[u, Rnd.vM m] H (RBegan H (s.take m)) := by
  obtain ⟨hI, hnok, r, x, rfl, hR, hS⟩ := hA
  have h256 := hI.len
  have w256 := hI.wl
  have hgl := hR.got.len
  have hwl := hR.wait.len
  have htk := raTakes_ok (H := H) (s := s) (r := r) (x := x) (m := m)
  have hrt := Rnd.refTake_ok (tries := s.tries) (m := m) hR (by omega) (by omega)
  have hst : s.take m = if s.over then (s, []) else if s.takes m && takesG s.wait s.G m then (if allG s.wait (insG s.G m) then (s.got m).judge else (s.got m, [])) else (s, []) := rfl
  have hgot := fun h => hI.got (m := m) hm h
  have hnokg : s.over = false → (s.got m).ok = false := fun h => hnok h
  have hsg : (s.got m).wait = s.wait ∧ (s.got m).G = insG s.G m ∧ (s.got m).asks = s.asks ∧ (s.got m).tries = s.tries ∧ (s.got m).over = s.over ∧ stt (s.got m) = stt s := ⟨rfl, rfl, rfl, rfl, rfl, rfl⟩
  have hcv : ∀ r', cellsV (s.got m) (stt (s.got m)) r' x = cellsV s (stt s) r' x := fun _ => rfl
  have hsl : ∀ {F : PHeap}, SlA F s x → SlA F (s.got m) x := fun h => ⟨h.h, h.a, h.s⟩
  generalize s.got m = sg at hst hgot hnokg hsg hcv hsl
  obtain ⟨g1, g2, g3, g4, g5, g6⟩ := hsg
  generalize s.take m = out at hst
  generalize s.takes m = tk at htk hst
  generalize takesG s.wait s.G m = tg at hrt hst hgot
  generalize insG s.G m = G' at hst hrt g2
  obtain ⟨y1, y2, y3, y4, y5, y6, y7, y8, y9, y10, ⟨ya, yb, yc, yl⟩, ⟨za, zb, zc, zl⟩, ⟨wa, wb, wc, wl⟩⟩ := m
  refine raTake.vc s.p.n s.p.t s.p.l s.p.w s.p.s s.p.r s.ballot s.name s.force s.live (stt s) s.mark r.a r.an r.ac r.w r.wn r.wc r.g r.gn r.gc s.tries s.ok s.fixed s.value.pr s.value.at_ s.value.ep s.value.sz x.h x.hn x.hc x.a x.an x.ac x.s x.sn x.sc y1 y2 y3 y4 y5 y6 y7 y8 y9 y10 ya yb yc za zb zc wa wb wc H _ (htk.mono ?_)
  rintro _ H58 ⟨rfl, hH⟩
  rw [hH]
  refine ⟨_, rfl, fun e1 => ?_, fun e1 => hrt.mono ?_⟩
  · have : out = (s, []) := by
      rw [hst]
      cases ho : s.over with
      | true => rw [if_pos rfl]
      | false => rw [ho] at e1; have : tk = false := by simpa using e1
                 rw [this]; rfl
    rw [this]
    exact ⟨_, none, 0, 0, rfl, ⟨hI, hnok, r, x, rfl, hR, hS⟩, RdL.nil _ _ _, Sub.refl _⟩
  · have ho : s.over = false := by cases ho : s.over <;> simp [ho] at e1 ⊢
    have htk' : tk = true := by cases tk <;> simp [ho] at e1 ⊢
    rw [if_neg (by rw [ho]; decide), htk', Bool.true_and] at hst
    rintro _ H61 ⟨r', rfl, hR', _, _, _, hs61⟩
    have hS61 := hS.mono hs61
    refine ⟨_, _, _, _, _, _, _, _, _, _, _, rfl, fun e2 => ?_, fun e2 => ?_⟩
    · have e2' : tg = true := by simpa using e2
      rw [e2', if_pos rfl] at hst hR'
      have hIg := (hgot e2').mono hs61
      have hR61 : RdR H61 r' sg.asks sg.wait sg.G := by rw [g1, g2, g3]; exact hR'
      have hwl' := hR'.wait.len
      have hgl' := hR61.got.len
      have hle := hIg.len
      have hwe := hI.wl
      refine (Rnd.refAll_ok (tries := s.tries) hR' (by omega) (by omega)).mono ?_
      rintro _ H74 ⟨rfl, hH74⟩
      rw [hH74]
      have hall : (s.wait.all fun i => decide (i ∈ froms G')) = allG s.wait G' := rfl
      rw [hall]
      refine ⟨_, rfl, fun e3 => ?_, fun e3 => ?_⟩
      · have e3' : allG s.wait G' = false := by simpa using e3
        rw [e3', if_neg (by decide)] at hst
        rw [hst]
        exact ⟨_, none, 0, 0, rfl, ⟨hIg, fun h => hnokg ho, r', x, by rw [hcv], hR61, hsl hS61⟩, RdL.nil _ _ _, hs61⟩
      · have e3' : allG s.wait G' = true := by simpa using e3
        rw [e3', if_pos rfl] at hst
        rw [hst]
        have hj := raJudge_ok (s := sg) (r := r') (x := x) (by rw [g5]; exact ho) hIg (hnokg ho) hR61 (hsl hS61)
        rw [hcv] at hj
        refine hj.mono ?_
        rintro _ H77 ⟨u, a, n, c, rfl, hRA, hrd, hs77⟩
        obtain ⟨r2, x2, hu, _⟩ := hRA.row
        refine ⟨_, _, _, _, _, _, _, _, _, _, _, _, _, _, _, _, _, _, _, _, _, _, _, _, _, _, _, _, _, _, _, _, _, _, _, _, _, a, n, c, by rw [hu], ?_⟩
        rw [← hu]
        exact ⟨u, a, n, c, rfl, hRA, hrd, hs61.trans hs77⟩
    · have e2' : tg = false := by simpa using e2
      rw [e2', if_neg (by decide)] at hst hR'
      rw [hst]
      exact ⟨_, none, 0, 0, rfl, ⟨hI.mono hs61, hnok, r', x, rfl, hR', hS61⟩, RdL.nil _ _ _, hs61⟩
theorem raTick_ok {H : PHeap} {s : St} {u : Value} (hA : RefA H u s) (hsm : s.judge.1.asks.length ≤ 100000) : Triple Try.prog 15 #[u] H (RBegan H s.tick) := by
  obtain ⟨hI, hnok, r, x, rfl, hR, hS⟩ := hA
  have hst : s.tick = if s.over then (s, []) else if s.judge.1.over || (s.judge.1.fixed != s.fixed) then s.judge else s.judge.1.late := rfl
  refine raTick.vc s.p.n s.p.t s.p.l s.p.w s.p.s s.p.r s.ballot s.name s.force s.live (stt s) s.mark r.a r.an r.ac r.w r.wn r.wc r.g r.gn r.gc s.tries s.ok s.fixed s.value.pr s.value.at_ s.value.ep s.value.sz x.h x.hn x.hc x.a x.an x.ac x.s x.sn x.sc H _ ⟨fun e1 => ?_, fun e1 => ?_⟩
  · have ho : s.over = true := by
      cases ho : s.over with
      | true => rfl
      | false => unfold stt at e1; rw [ho] at e1; cases hf : s.fixed <;> simp [hf] at e1
    rw [hst, if_pos ho]
    exact ⟨_, none, 0, 0, rfl, ⟨hI, hnok, r, x, rfl, hR, hS⟩, RdL.nil _ _ _, Sub.refl _⟩
  · have ho : s.over = false := by
      cases ho : s.over with
      | false => rfl
      | true => rw [stt_over ho] at e1; cases e1
    rw [if_neg (by rw [ho]; decide)] at hst
    refine (raJudge_ok ho hI (hnok ho) hR hS).mono ?_
    rintro _ H39 ⟨u, a, n, c, rfl, hRA, hrd, hs39⟩
    have hRA' := hRA
    obtain ⟨hI2, hnok2, r2, x2, hu, hR2, hS2⟩ := hRA'
    have hj := judge_cases s
    have hfo : (stt s.judge.1 != stt s) = (s.judge.1.over || (s.judge.1.fixed != s.fixed)) := by
      unfold stt
      rw [ho]
      cases h1 : s.judge.1.over <;> cases h2 : s.judge.1.fixed <;> cases h3 : s.fixed <;> first | rfl | simp
    refine ⟨_, _, _, _, _, _, _, _, _, _, _, _, _, _, _, _, _, _, _, _, _, _, _, _, _, _, _, _, _, _, _, _, _, _, _, _, _, a, n, c, by rw [hu], fun e2 => ?_, fun e2 => ?_⟩
    · rw [hfo] at e2
      rw [e2, if_pos rfl] at hst
      rw [hst, ← hu]
      exact ⟨u, a, n, c, rfl, hRA, hrd, hs39⟩
    · rw [hfo] at e2
      rw [e2, if_neg (by decide)] at hst
      have ho2 : s.judge.1.over = false := by cases h1 : s.judge.1.over <;> simp [h1] at e2 ⊢
      have hlt : s.judge.1.late = if s.judge.1.tries = 0 then (s.judge.1.end_ false, []) else ({ s.judge.1 with tries := IntKind.i64.wrap (s.judge.1.tries - 1) }, againG s.judge.1.asks s.judge.1.G) := rfl
      rw [hlt] at hst
      have hal : r2.an ≤ 100000 := by rw [← hR2.asks.len]; exact hsm
      have hgl : r2.gn ≤ 100000 := by rw [← hR2.got.len]; have := hI2.len; omega
      generalize s.judge.1 = t at *
      refine (Rnd.refTick_ok (tries := t.tries) hR2 hgl hal).mono ?_
      rintro _ H81 hc
      rcases hc with ⟨h0, rfl, hH⟩ | ⟨h0, hs81, b, m, c, rfl, hrd2⟩
      · rw [hH]
        rw [if_pos h0] at hst
        rw [hst]
        refine ⟨_, _, _, _, _, _, _, _, _, _, _, _, _, _, rfl, fun _ => ?_, fun e => (by cases e)⟩
        exact ⟨_, none, 0, 0, rfl, ⟨⟨hI2.pok, hI2.wt, hI2.gin, hI2.asc, hI2.okG, hI2.okS⟩, fun e => (by cases e), r2, x2, by rw [stt_over (s := t.end_ false) rfl, hnok2 ho2]; rfl, hR2, ⟨hS2.h, hS2.a, hS2.s⟩⟩, RdL.nil _ _ _, hs39⟩
      · rw [if_neg h0] at hst
        rw [hst]
        refine ⟨_, _, _, _, _, _, _, _, _, _, _, _, _, _, rfl, fun e => (by cases e), fun _ => ?_⟩
        have hI3 := hI2.mono hs81
        have hS3 := hS2.mono hs81
        exact ⟨_, b, m, c, rfl, ⟨⟨hI3.pok, hI3.wt, hI3.gin, hI3.asc, hI3.okG, hI3.okS⟩, hnok2, r2, x2, rfl, hR2.mono hs81, ⟨hS3.h, hS3.a, hS3.s⟩⟩, hrd2, hs39.trans hs81⟩
end Go.Agr
