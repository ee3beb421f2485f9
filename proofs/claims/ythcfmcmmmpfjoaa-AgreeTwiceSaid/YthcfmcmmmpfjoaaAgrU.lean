/- The document's agreement: its steps. -/
import Derived.Test.YthcfmcmmmpfjoaaAgrS
namespace Go.Agr
open Go.Vx Go.Vc Go.Proofs Go.Pln Go.Stl
open Go.Rnd (takesG insG froms againG RdR RV OkM AscG)

theorem stt_over {s : St} (h : s.over = true) : stt s = 2 := by unfold stt; rw [h]; rfl
theorem stt_fix {s : St} (h : s.over = false) (hf : s.fixed = true) : stt s = 1 := by unfold stt; rw [h, hf]; rfl
theorem stt_ask {s : St} (h : s.over = false) (hf : s.fixed = false) : stt s = 0 := by unfold stt; rw [h, hf]; rfl
theorem Inv.mono {F F' : PHeap} {s : St} (h : Inv F s) (hs : Sub F F') : Inv F' s := ⟨h.pok, h.wt, h.gin, h.asc, fun m hm => (h.okG m hm).mono hs, fun m hm => (h.okS m hm).mono hs⟩
theorem Inv.wl {F : PHeap} {s : St} (h : Inv F s) : s.wait.length ≤ 256 := by
  rw [h.wt, ids_len]
  have := (Plan.ok_iff.1 h.pok).n2
  omega
theorem raTakes_ok {H : PHeap} {s : St} {r : RV} {x : AV} {m : Msg} : Triple Try.prog 34 #[.agg (cellsV s (stt s) r x).toArray, Rnd.vM m] H fun v H' => v = .bool (!s.over && s.takes m) ∧ H' = H := by
  obtain ⟨y1, y2, y3, y4, y5, y6, y7, y8, y9, y10, ⟨ya, yb, yc, yl⟩, ⟨za, zb, zc, zl⟩, ⟨wa, wb, wc, wl⟩⟩ := m
  have ht : s.takes (y1, y2, y3, y4, y5, y6, y7, y8, y9, y10, ⟨ya, yb, yc, yl⟩, ⟨za, zb, zc, zl⟩, ⟨wa, wb, wc, wl⟩) = (y4 == s.ballot && eqS y5 s.name && (if s.fixed then (if y1 == 16 then y10 == 4 && y8 == s.mark else y1 == 17 && y8 == s.mark && (if s.value.pr then (y10 == 2 || y10 == 3) && y6 == s.value.at_ && y7 == s.value.ep else y10 == 4)) else y1 == 14)) := rfl
  rw [ht]
  refine raTakes.vc s.p.n s.p.t s.p.l s.p.w s.p.s s.p.r s.ballot s.name s.force s.live (stt s) s.mark r.a r.an r.ac r.w r.wn r.wc r.g r.gn r.gc s.tries s.ok s.fixed s.value.pr s.value.at_ s.value.ep s.value.sz x.h x.hn x.hc x.a x.an x.ac x.s x.sn x.sc y1 y2 y3 y4 y5 y6 y7 y8 y9 y10 ya yb yc za zb zc wa wb wc H _ ⟨fun e1 => ?_, fun e1 => ?_⟩
  · refine ⟨?_, rfl⟩
    congr 1
    cases ho : s.over with
    | true => rfl
    | false =>
      have h2 : (stt s == 2) = false := by unfold stt; rw [ho]; cases s.fixed <;> rfl
      rw [h2] at e1
      cases h4 : y4 == s.ballot with
      | false => rfl
      | true =>
        simp [bne, h4] at e1
        rw [e1]; rfl
  · have ho : s.over = false := by
      cases ho : s.over with
      | false => rfl
      | true => rw [stt_over ho] at e1; cases e1
    have h2 : (stt s == 2) = false := by unfold stt; rw [ho]; cases s.fixed <;> rfl
    rw [h2] at e1
    have h4 : (y4 == s.ballot) = true := by
      cases h4 : y4 == s.ballot with
      | true => rfl
      | false => simp [bne, h4] at e1
    have h5 : eqS y5 s.name = true := by
      simp [bne, h4] at e1
      exact e1
    rw [ho, h4, h5]
    refine ⟨fun e2 => ?_, fun e2 => ⟨fun e3 => ?_, fun e3 => ⟨fun e4 => ?_, fun e4 => ⟨fun e5 => ?_, fun e5 => ?_⟩⟩⟩⟩
    · have hf : s.fixed = false := by
        cases hf : s.fixed with
        | false => rfl
        | true => rw [stt_fix ho hf] at e2; cases e2
      exact ⟨by rw [hf]; simp, rfl⟩
    all_goals
      have hf : s.fixed = true := by
        cases hf : s.fixed with
        | true => rfl
        | false => rw [stt_ask ho hf] at e2; cases e2
      rw [hf]
    · have e3' : (y8 == s.mark) = false := by simpa [bne] using e3
      refine ⟨?_, rfl⟩
      rw [e3']; cases y1 == 16 <;> cases y10 == 4 <;> cases y1 == 17 <;> rfl
    all_goals have e3' : (y8 == s.mark) = true := by simpa [bne] using e3
    · exact ⟨by rw [e4, e3']; simp, rfl⟩
    · refine ⟨?_, rfl⟩
      rw [e4, e3', e5]
      cases y1 == 17 <;> cases y10 == 2 <;> cases y10 == 3 <;> cases y6 == s.value.at_ <;> cases y7 == s.value.ep <;> rfl
    · refine ⟨?_, rfl⟩
      rw [e4, e3', e5]
      cases y1 == 17 <;> cases y10 == 4 <;> rfl
theorem raJudge_ok {H : PHeap} {s : St} {r : RV} {x : AV} (ho : s.over = false) (hI : Inv H s) (hk : s.ok = false) (hR : RdR H r s.asks s.wait s.G) (hS : SlA H s x) :
    Triple Try.prog 32 #[.agg (cellsV s (stt s) r x).toArray] H (RBegan H s.judge) := by
  have hgl := hR.got.len
  have hwl := hR.wait.len
  have h256 := hI.len
  have w256 := hI.wl
  refine raJudge.vc s.p.n s.p.t s.p.l s.p.w s.p.s s.p.r s.ballot s.name s.force s.live (stt s) s.mark r.a r.an r.ac r.w r.wn r.wc r.g r.gn r.gc s.tries s.ok s.fixed s.value.pr s.value.at_ s.value.ep s.value.sz x.h x.hn x.hc x.a x.an x.ac x.s x.sn x.sc H _ ((Rnd.refAll_ok (tries := s.tries) hR (by omega) (by omega)).mono ?_)
  rintro _ H39 ⟨rfl, hH⟩
  rw [hH]
  have hall : (s.wait.all fun i => decide (i ∈ froms s.G)) = allG s.wait s.G := rfl
  rw [hall]
  refine ⟨_, rfl, fun e1 => ?_, fun e1 => ?_⟩
  · have hf : s.fixed = false := by
      cases hf : s.fixed with
      | false => rfl
      | true => rw [stt_fix ho hf] at e1; cases e1
    have hst := stt_ask ho hf
    have hj : s.judge = if (verd s.p s.G).enough then
        if (verd s.p s.G).clean && !s.force then (St.end_ { s with said := s.G, value := (verd s.p s.G).value, holders := (verd s.p s.G).holders } true, [])
        else St.fix { s with said := s.G } (verd s.p s.G).value
      else if allG s.wait s.G then (s.end_ false, []) else (s, []) := by
      unfold St.judge; rw [if_neg (by rw [hf]; decide)]; rfl
    rw [hj]
    refine (rSettle_ok (p := s.p) hR.got (fun y hy => (hI.okG y hy).who) (by omega)).mono ?_
    rintro _ H42 ⟨b, m, q, rfl, hown, hs42, _⟩
    generalize verd s.p s.G = w at hown
    have hI42 := hI.mono hs42
    have hS42 := hS.mono hs42
    have hR42 := hR.mono hs42
    refine ⟨_, _, _, _, _, _, _, b, m, q, rfl, fun e2 => ⟨fun e3 => ?_, fun e3 => ?_⟩, fun e2 => ⟨fun e3 => ?_, fun e3 => ?_⟩⟩
    · have e2' : w.enough = false := by simpa using e2
      rw [e2', e3]
      refine ⟨_, none, 0, 0, rfl, ⟨⟨hI42.pok, hI42.wt, hI42.gin, hI42.asc, hI42.okG, hI42.okS⟩, fun _ => rfl, r, x, ?_, hR42, ⟨hS42.h, hS42.a, hS42.s⟩⟩, RdL.nil _ _ _, hs42⟩
      simp only [Bool.false_eq_true, if_false, if_true]
      rw [stt_over (s := s.end_ false) rfl, hk]; rfl
    · have e2' : w.enough = false := by simpa using e2
      rw [e2', e3]
      exact ⟨_, none, 0, 0, rfl, ⟨hI42, fun _ => hk, r, x, rfl, hR42, hS42⟩, RdL.nil _ _ _, hs42⟩
    · have e2' : w.enough = true := by simpa using e2
      have e3' : (w.clean && !s.force) = false := by cases h1 : w.clean <;> cases h2 : s.force <;> simp [h1, h2] at e3 ⊢
      rw [e2', e3', if_pos rfl]
      refine (raFixM_ok (s := { s with said := s.G }) (st := stt s) (r := r) (x := { x with s := r.g, sn := r.gn, sc := r.gc }) (v := w.value) hI.pok ho hk hI42.okG ⟨hS42.h, hS42.a, hR42.got⟩).mono ?_
      rintro _ H54 ⟨u, a, n, c, rfl, hRA, hrd, hs54⟩
      obtain ⟨r2, x2, hu, _⟩ := hRA.row
      refine ⟨_, _, _, _, _, _, _, _, _, _, _, _, _, _, _, _, _, _, _, _, _, _, _, _, _, _, _, _, _, _, _, _, _, _, _, _, _, a, n, c, by rw [hu], ?_⟩
      rw [← hu]
      exact ⟨u, a, n, c, rfl, hRA, hrd, hs42.trans hs54⟩
    · have e2' : w.enough = true := by simpa using e2
      have e3' : (w.clean && !s.force) = true := by cases h1 : w.clean <;> cases h2 : s.force <;> simp [h1, h2] at e3 ⊢
      rw [e2', e3', if_pos rfl, if_pos rfl]
      exact ⟨_, none, 0, 0, rfl, ⟨⟨hI42.pok, hI42.wt, hI42.gin, hI42.asc, hI42.okG, hI42.okG⟩, fun e => (by cases e), r, { x with s := r.g, sn := r.gn, sc := r.gc, h := b, hn := m, hc := q }, rfl, hR42, ⟨hown.rd (E := iE) (sz := 1) (by omega) Rnd.iLen, hS42.a, hR42.got⟩⟩, RdL.nil _ _ _, hs42⟩
  · have hf : s.fixed = true := by
      cases hf : s.fixed with
      | true => rfl
      | false => rw [stt_ask ho hf] at e1; cases e1
    have hst := stt_fix ho hf
    have hj : s.judge = if decide ((s.num : Int) ≥ s.p.w) || allG s.wait s.G then (s.counted.end_ (decide ((s.num : Int) ≥ s.p.w)), []) else (s.counted, []) := by
      unfold St.judge; rw [if_pos hf]; rfl
    rw [hj]
    refine ⟨fun t H' => match t with | [.int _ i, v] => 0 ≤ i ∧ i ≤ r.gn ∧ Sub H H' ∧ ∃ a an ac b bn bc, v = .agg (cellsV s (stt s) r { x with a := a, an := an, ac := ac, h := b, hn := bn, hc := bc }).toArray ∧ OwnL H' 3 iE 1 a an ac ((ackL (s.G.take i.toNat)).map from_) ∧ OwnL H' 3 iE 1 b bn bc (holdL s.value (ackL (s.G.take i.toNat))) ∧ Off H a ∧ Off H b ∧ (∀ z y, a = some z → b = some y → z.block ≠ y.block) | _ => False, fun t _ => match t with | [.int _ i, _] => (r.gn - i).toNat | _ => 0, ⟨by omega, by omega, Sub.refl _, none, 0, 0, none, 0, 0, rfl, Owns.nil _ _ 1, Owns.nil _ _ 1, Off.none _, Off.none _, fun z y e => by cases e⟩, ?_⟩
    rintro i n98 n99 n100 n101 n102 n103 n104 s105 b106 b107 n108 n109 a110 k111 k112 a113 k114 k115 a116 k117 k118 n119 b120 b121 b122 n123 n124 n125 a126 k127 k128 a129 k130 k131 a132 k133 k134 H135 ⟨i0, i1, hs, a, an, ac, b, bn, bc, hv, hoa, hob, hfa, hfb, hap⟩
    simp only [Value.agg.injEq] at hv
    have hv' := congrArg Array.toList hv
    simp at hv'
    obtain ⟨rfl, rfl, rfl, rfl, rfl, rfl, rfl, rfl, rfl, rfl, rfl, rfl, ⟨rfl, rfl, rfl⟩, ⟨rfl, rfl, rfl⟩, ⟨rfl, rfl, rfl⟩, rfl, rfl, rfl, rfl, rfl, rfl, rfl, ⟨rfl, rfl, rfl⟩, ⟨rfl, rfl, rfl⟩, rfl, rfl, rfl⟩ := hv'
    obtain ⟨i, rfl⟩ : ∃ j : Nat, i = j := ⟨i.toNat, by omega⟩
    rw [Int.toNat_natCast] at hoa hob
    have hal := (hoa.rd (E := iE) (sz := 1) (by omega) Rnd.iLen).len
    have hbl := (hob.rd (E := iE) (sz := 1) (by omega) Rnd.iLen).len
    rw [List.length_map] at hal
    have hfl : (ackL (s.G.take i)).length ≤ 256 := by
      have : (ackL (s.G.take i)).length ≤ (s.G.take i).length := List.length_filter_le ..
      rw [List.length_take] at this
      omega
    have hhl := hold_len s.value (ackL (s.G.take i))
    refine ⟨fun hi => ?_, fun hi => ?_⟩
    · have hi' : i < r.gn := by simpa using hi
      have hg := hR.got.mono hs
      obtain ⟨y, hy, hyr⟩ := hg.ex (i := (i : Int)) (by omega) (by omega)
      rw [Int.toNat_natCast] at hy
      have hsn := ackL_snoc (s.G.take i) y
      rw [show s.G.take i ++ [y] = s.G.take (i + 1) by rw [List.take_add_one, hy]; rfl] at hsn
      have hky : ∀ y1, kind_ y = y1 → (kind_ y == 17) = (y1 == 17) := by rintro _ rfl; rfl
      have hfy : ∀ y2, from_ y = y2 → [y].map from_ = [y2] := by rintro _ rfl; rfl
      have hme : ∀ (H : PHeap) (k : Nat), Bx H k 32 (mE y) → RdL H mE 13 (at0 k) 1 [y] := fun H k h => Bx.rd (E := mE) (l := [y]) Rnd.mLen (by simpa using h)
      have hmB : ∀ (H : PHeap) (k : Nat), Bx (H.upd k (.cells (mE y).toArray 32 (0, 0))) k 32 (mE y) := fun H k => Bx.new _ _ _ _
      have hap1 : ∀ L, holdL s.value (L ++ [y]) = holdL s.value L ++ holdL s.value [y] := fun L => by
        unfold holdL; rw [List.filter_append, List.map_append]
      have hl1 := hold_len s.value [y]
      generalize hX : holdL s.value [y] = X at hap1 hl1
      have hho : ∀ {G : PHeap} {oa : Option Addr} {c : Nat}, RdL G mE 13 oa 1 [y] → Triple Try.prog 58 #[.slice oa 1 c, s.value.v] G fun w H' => ∃ b k q, w = .slice b k q ∧ OwnL H' 3 iE 1 b k q X ∧ Sub G H' ∧ Off G b := fun h => by
        rw [← hX]; exact rHold_ok h (by decide)
      obtain ⟨y1, y2, y3, y4, y5, y6, y7, y8, y9, y10, ⟨ya, yb, yc, yl⟩, ⟨za, zb, zc, zl⟩, ⟨wa, wb, wc, wl⟩⟩ := y
      rw [hky y1 rfl] at hsn
      have hfy' := hfy y2 rfl
      rw [Rnd.wrapS (i := (i : Int)) (by omega) (by omega)]
      refine ⟨hg.ob (by omega) (by omega), y1, y2, y3, y4, y5, y6, y7, y8, y9, y10, ya, yb, yc, za, zb, zc, wa, wb, wc, hyr, fun e2 k155 hk155 => ?_, fun e2 => ?_⟩
      · rw [e2, if_pos rfl] at hsn
        refine append_one Rnd.tI (E := iE) (x := y2) hk155 Rnd.iLen hoa rfl (Rnd.iOne _) (by simp [maxLen]; omega) (by omega) ?_
        intro a' ac' H157 hoa' hf' hfr' hnn
        have hob' : OwnL H157 3 iE 1 _ _ _ _ := hob.mono fun z o hz ho' => hf' _ _ ho' fun z' hz' e => hap z' z hz' hz e.symm
        have hap' : ∀ z y, a' = some z → a126 = some y → z.block ≠ y.block := fun z y hz hy => by
          subst hy
          obtain ⟨o, ho'⟩ := hob.blk
          exact hfr'.ne ho' (fun z' hz' => hap z' y hz' rfl) z hz
        have s157 := hf'.sub hs hfa
        have hfa' := hfr'.off hs hfa
        refine ⟨a', _, ac', rfl, fun k161 hk161 => ?_⟩
        have s161 := Sub.upd (.cells (mE (y1, y2, y3, y4, y5, y6, y7, y8, y9, y10, ⟨ya, yb, yc, yl⟩, ⟨za, zb, zc, zl⟩, ⟨wa, wb, wc, wl⟩)).toArray 32 (0, 0)) hk161
        refine (hho (hme _ _ (hmB H157 k161))).mono ?_
        rintro _ H163 ⟨b5, m5, q5, rfl, hX2, s163, o163⟩
        have hs163 := s161.trans s163
        have hob3 := hob'.mono (H' := H163) fun z o _ ho' => hs163.le _ _ ho'
        have hoa3 := hoa'.mono (H' := H163) fun z o _ ho' => hs163.le _ _ ho'
        have hm := (hX2.rd (E := iE) (sz := 1) (by omega) Rnd.iLen).len
        refine ⟨b5, m5, q5, rfl, append_rd Rnd.tI Rnd.iLen hob3 (hX2.rd (E := iE) (sz := 1) (by omega) Rnd.iLen) Rnd.iOne (by simp [maxLen]; simp at hl1; omega) (by simp at hl1; omega) ?_⟩
        intro b' bc' H168 hob4 hf4 hfr4
        have hoa4 := hoa3.mono (H' := H168) fun z o hz ho' => hf4 _ _ ho' fun z' hz' e => hap' z z' hz hz' e
        have hap4 : ∀ z y, a' = some z → b' = some y → z.block ≠ y.block := fun z y hz hy => by
          subst hz
          obtain ⟨o, ho'⟩ := hoa3.blk
          exact fun e => hfr4.ne ho' (fun z' hz' e' => hap' z z' rfl hz' e'.symm) y hy e.symm
        refine ⟨b', _, bc', rfl, ⟨by omega, by omega, hf4.sub (s157.trans hs163) hfb, a', _, ac', b', _, bc', rfl, ?_, ?_, hfa', hfr4.off (s157.trans hs163) hfb, hap4⟩, ⟨by simp only; omega⟩⟩
        · rw [show ((i : Int) + 1).toNat = i + 1 by omega, hsn, List.map_append, hfy']; exact hoa4
        · rw [show ((i : Int) + 1).toNat = i + 1 by omega, hsn, hap1]; exact hob4
      · rw [e2] at hsn
        simp only [Bool.false_eq_true, if_false, List.append_nil] at hsn
        refine ⟨⟨by omega, by omega, hs, _, _, _, _, _, _, rfl, ?_, ?_, hfa, hfb, hap⟩, ⟨by simp only; omega⟩⟩
        · rw [show ((i : Int) + 1).toNat = i + 1 by omega, hsn]; exact hoa
        · rw [show ((i : Int) + 1).toNat = i + 1 by omega, hsn]; exact hob
    · have hi' : ¬ i < r.gn := by simpa using hi
      rw [List.take_of_length_le (by omega)] at hoa hob hal hbl
      have hI1 := hI.mono hs
      have hS1 := hS.mono hs
      have hR1 := hR.mono hs
      have hnum : (bif s.live then decide ((k127 : Int) ≥ s.p.w) else decide ((k130 : Int) ≥ s.p.w)) = decide ((s.num : Int) ≥ s.p.w) := by
        unfold St.num
        cases s.live
        · rw [cond_false, ← hal]; rfl
        · rw [cond_true, ← hbl]; rfl
      have sl : SlA H135 s.counted { x with a := a129, an := k130, ac := k131, h := a126, hn := k127, hc := k128 } := ⟨hob.rd (E := iE) (sz := 1) (by omega) Rnd.iLen, hoa.rd (E := iE) (sz := 1) (by omega) Rnd.iLen, hS1.s⟩
      rw [hnum]
      refine ⟨fun e2 => ?_, fun e2 => ?_⟩
      · have e2' : (decide ((s.num : Int) ≥ s.p.w) || allG s.wait s.G) = true := by
          cases h1 : decide ((s.num : Int) ≥ s.p.w) <;> simp [h1] at e2 ⊢
          exact e2
        rw [e2', if_pos rfl]
        exact ⟨_, none, 0, 0, rfl, ⟨⟨hI1.pok, hI1.wt, hI1.gin, hI1.asc, hI1.okG, hI1.okS⟩, fun e => (by cases e), r, _, rfl, hR1, ⟨sl.h, sl.a, sl.s⟩⟩, RdL.nil _ _ _, hs⟩
      · have e2' : (decide ((s.num : Int) ≥ s.p.w) || allG s.wait s.G) = false := by
          cases h1 : decide ((s.num : Int) ≥ s.p.w) <;> simp [h1] at e2 ⊢
          exact e2
        rw [e2', if_neg (by decide)]
        exact ⟨_, none, 0, 0, rfl, ⟨⟨hI1.pok, hI1.wt, hI1.gin, hI1.asc, hI1.okG, hI1.okS⟩, fun _ => hk, r, _, rfl, hR1, sl⟩, RdL.nil _ _ _, hs⟩
end Go.Agr
