/- The document's chore: Start; the same messages; names stay rising and short. · The law ChorePlays: the walk. -/
import Derived.Test.YtajkbeifgghpmaaGreatCPk16
set_option linter.unusedVariables false
set_option maxRecDepth 100000
namespace Go.Cho
open Go.Vx Go.Vc Go.Proofs Go.Pln Go.Stl Go.Agr
open Go.Rnd (takesG insG froms againG OkM AscG RdR RV)
open Go.Txt (sE)
open Go.Txt (Rising)
open Go.Page (limL namesL susL susStep cntL sumN names_ noS stateL rising_namesL mem_namesL)
theorem near_round {t : TS} (h : NearT t) (at' : Int) (m : Msg) (to wait : List Int) : NearT (t.round at' m to wait).1 := ⟨h.ri, h.ps, fun m hm => by cases hm⟩
theorem near_name {t : TS} (h : NearT t) : NearT t.name.1 := by
  unfold TS.name
  split
  · exact ⟨h.ri, h.ps, h.gs⟩
  · split
    · exact ⟨h.ri, h.ps, h.gs⟩
    · exact near_round h _ _ _ _
theorem near_turned {t : TS} (h : NearT t) : NearT t.turned := by
  refine ⟨rising_namesL _ _ h.ri, fun x hx => ?_, h.gs⟩
  rcases (mem_namesL _ _ _ x).1 hx with h1 | ⟨m, hm, h1, _⟩
  · exact h.ps x h1
  · exact h.gs m (List.mem_filter.1 hm).1 x h1
theorem near_answered {t : TS} (h : NearT t) : NearT t.answered.1 := by
  unfold TS.answered
  split
  · exact ⟨h.ri, h.ps, h.gs⟩
  · exact h
theorem near_next {t : TS} (h : NearT t) : NearT t.next.1 := by
  have ht := near_turned h
  unfold TS.next TS.listed TS.named TS.mend TS.purge
  split
  · split
    · split
      · exact near_name (t := { t.turned with names := t.turned.pn, sus := t.turned.ps }) ⟨ht.ri, ht.ps, ht.gs⟩
      · exact near_round ht _ _ _ _
    · exact near_answered h
  · split
    · exact near_name (t := t.behind) ⟨h.ri, h.ps, h.gs⟩
    · split
      · split
        · exact near_round h _ _ _ _
        · exact ⟨h.ri, h.ps, h.gs⟩
      · split
        · split
          · exact ⟨h.ri, h.ps, h.gs⟩
          · exact near_round h _ _ _ _
        · exact near_answered h
theorem near_goes {t : TS} (h : NearT t) (r : Agr.St × List Msg) : NearT (t.goes r).1 := by
  have h' : NearT { t with A := r.1 } := ⟨h.ri, h.ps, h.gs⟩
  unfold TS.goes
  split
  · split
    · exact near_next h'
    · exact ⟨h.ri, h.ps, h.gs⟩
  · exact h'
theorem near_take {t : TS} {m : Msg} (h : NearT t) (hm : ∀ x ∈ (names_ m).l, x.size ≤ 40) : NearT (t.take m).1 := by
  have hg := near_got h hm
  unfold TS.take
  split
  · exact h
  · split
    · exact near_goes h _
    · split
      · exact ⟨h.ri, h.ps, h.gs⟩
      · split
        · split
          · exact near_next hg
          · exact hg
        · exact h
theorem near_tick {t : TS} (h : NearT t) : NearT t.tick.1 := by
  unfold TS.tick
  split
  · exact h
  · split
    · exact near_goes h _
    · split
      · exact near_next h
      · unfold TS.late
        split
        · exact ⟨h.ri, h.ps, h.gs⟩
        · exact ⟨h.ri, h.ps, h.gs⟩
theorem near_start {p : Plan} {b : Int} {c : Ch} {o : Bool} : NearT (start p b c o).1 := by
  have h0 : NearT (start0 p b c) := ⟨List.Pairwise.nil, fun x hx => (by cases hx), fun m hm => by cases hm⟩
  unfold start
  split
  · exact h0
  · split
    · exact near_round h0 _ _ _ _
    · split
      · exact ⟨h0.ri, h0.ps, h0.gs⟩
      · split
        · exact ⟨h0.ri, h0.ps, h0.gs⟩
        · exact h0
theorem same2_ok {H : PHeap} {m m' : Msg} (h : OkM H m) (h' : OkM H m') (e : strip m = strip m') : Triple Tryz.prog 31 #[Rnd.vM m, Rnd.vM m'] H fun v H' => v = .bool true ∧ Sub H H' := by
  obtain ⟨y1, y2, y3, y4, y5, y6, y7, y8, y9, y10, ⟨ya, yb, yc, yl⟩, ⟨za, zb, zc, zl⟩, ⟨wa, wb, wc, wl⟩⟩ := m
  obtain ⟨x1, x2, x3, x4, x5, x6, x7, x8, x9, x10, ⟨xa, xb, xc, xl⟩, ⟨ua, ub, uc, ul⟩, ⟨va, vb, vc, vl⟩⟩ := m'
  have e1 : y1 = x1 := congrArg (fun m : Msg => m.1) e
  have e2 : y2 = x2 := congrArg (fun m : Msg => m.2.1) e
  have e3 : y3 = x3 := congrArg (fun m : Msg => m.2.2.1) e
  have e4 : y4 = x4 := congrArg (fun m : Msg => m.2.2.2.1) e
  have e5 : y5 = x5 := congrArg (fun m : Msg => m.2.2.2.2.1) e
  have e6 : y6 = x6 := congrArg (fun m : Msg => m.2.2.2.2.2.1) e
  have e7 : y7 = x7 := congrArg (fun m : Msg => m.2.2.2.2.2.2.1) e
  have e8 : y8 = x8 := congrArg (fun m : Msg => m.2.2.2.2.2.2.2.1) e
  have e9 : y9 = x9 := congrArg (fun m : Msg => m.2.2.2.2.2.2.2.2.1) e
  have e10 : y10 = x10 := congrArg (fun m : Msg => m.2.2.2.2.2.2.2.2.2.1) e
  have l1 : yl = xl := congrArg (fun m : Msg => m.2.2.2.2.2.2.2.2.2.2.1.l) e
  have l2 : zl = ul := congrArg (fun m : Msg => m.2.2.2.2.2.2.2.2.2.2.2.1.l) e
  have l3 : wl = vl := congrArg (fun m : Msg => m.2.2.2.2.2.2.2.2.2.2.2.2.l) e
  subst e1 e2 e3 e4 e5 e6 e7 e8 e9 e10 l1 l2 l3
  obtain ⟨h1, h2, h3, p1, p2, p3⟩ := h
  obtain ⟨g1, g2, g3, _, _, _⟩ := h'
  have n1 : yb = xb := h1.len.symm.trans g1.len
  have n2 : zb = ub := h2.len.symm.trans g2.len
  have n3 : wb = vb := h3.len.symm.trans g3.len
  subst n1 n2 n3
  refine sameM.vc y1 y2 y3 y4 y5 y6 y7 y8 y9 y10 ya yb yc za zb zc wa wb wc y1 y2 y3 y4 y5 y6 y7 y8 y9 y10 xa yb xc ua zb uc va wb vc H _ fun k1 hk1 k2 hk2 => ?_
  have s1 := (Sub.upd (.cells #[.int .i64 y1, .int .i64 y2, .int .i64 y3, .int .i64 y4, .int .i64 y6, .int .i64 y7, .int .i64 y8, .int .i64 y9, .int .i64 y10] 3) hk1).trans (Sub.upd (.cells #[.int .i64 y1, .int .i64 y2, .int .i64 y3, .int .i64 y4, .int .i64 y6, .int .i64 y7, .int .i64 y8, .int .i64 y9, .int .i64 y10] 3) hk2)
  have c1 := (Bx.new H k1 3 (([y1, y2, y3, y4, y6, y7, y8, y9, y10] : List Int).flatMap iE)).upd (.cells #[.int .i64 y1, .int .i64 y2, .int .i64 y3, .int .i64 y4, .int .i64 y6, .int .i64 y7, .int .i64 y8, .int .i64 y9, .int .i64 y10] 3) hk2
  have c2 := Bx.new (H.upd k1 (.cells #[.int .i64 y1, .int .i64 y2, .int .i64 y3, .int .i64 y4, .int .i64 y6, .int .i64 y7, .int .i64 y8, .int .i64 y9, .int .i64 y10] 3)) k2 3 (([y1, y2, y3, y4, y6, y7, y8, y9, y10] : List Int).flatMap iE)
  refine (Rnd.sameInts_ok (Bx.rd Rnd.iLen c1) (Bx.rd Rnd.iLen c2) (by simp)).mono ?_
  rintro _ _ ⟨rfl, rfl⟩
  refine ⟨true, rfl, fun _ => ⟨fun _ => (Rnd.sameInts_ok (h1.mono s1) (g1.mono s1) p1).mono ?_, fun e => ?_⟩, fun e => by simp at e⟩
  · rintro _ _ ⟨rfl, rfl⟩
    refine ⟨true, rfl, fun _ => (Rnd.sameS_ok (h2.mono s1) (g2.mono s1) p2).mono ?_, fun e => by simp at e⟩
    rintro _ _ ⟨rfl, rfl⟩
    refine ⟨true, rfl, fun _ => (Rnd.sameB_ok (h3.mono s1) (g3.mono s1) p3).mono ?_, fun e => by simp at e⟩
    rintro _ _ ⟨rfl, rfl⟩
    exact ⟨true, rfl, rfl, s1⟩
  · rw [eqS_iff.2 rfl] at e; simp at e
theorem sameAll2_ok {H : PHeap} {L : List Msg} {x y : Value} (hx : SaidL L x H) (hy : SaidL L y H) (hL : L.length ≤ 100000) :
    Triple Tryz.prog 10 #[x, y] H fun v H' => v = .bool true ∧ Sub H H' := by
  obtain ⟨oa, n, c, l, rfl, h1, ok1, q1⟩ := hx
  obtain ⟨ob, n2, d, l2, rfl, h2, ok2, q2⟩ := hy
  have e1 : l.length = L.length := by rw [← q1, List.length_map]
  have e2 : l2.length = L.length := by rw [← q2, List.length_map]
  have hn : n2 = n := by rw [← h1.len, ← h2.len]; omega
  subst hn
  have hll := h1.len
  refine sameAll.vc oa n2 c ob n2 d H _ ⟨fun h => by simp at h, fun _ => ⟨fun t H' => match t with | [.int _ i] => 0 ≤ i ∧ i ≤ n2 ∧ Sub H H' | _ => False, fun t _ => match t with | [.int _ i] => (n2 - i).toNat | _ => 0, ⟨by omega, by omega, Sub.refl _⟩, ?_⟩⟩
  rintro i H1 ⟨i0, i1, hs⟩
  obtain ⟨i, rfl⟩ : ∃ j : Nat, i = j := ⟨i.toNat, by omega⟩
  refine ⟨fun hi => ⟨H1, Sub.refl _, ?_⟩, fun _ => ⟨rfl, hs⟩⟩
  have hi' : i < n2 := by simpa using hi
  obtain ⟨x, hx, hxr⟩ := (h1.mono hs).ex (i := (i : Int)) (by omega) (by omega)
  obtain ⟨y, hy, hyr⟩ := (h2.mono hs).ex (i := (i : Int)) (by omega) (by omega)
  rw [Int.toNat_natCast] at hx hy
  have es : strip x = strip y := by
    have a1 : (l.map strip)[i]? = some (strip x) := by rw [List.getElem?_map, hx]; rfl
    have a2 : (l2.map strip)[i]? = some (strip y) := by rw [List.getElem?_map, hy]; rfl
    rw [q1] at a1
    rw [q2, a1] at a2
    exact Option.some.inj a2
  have hsm := same2_ok ((ok1 x (List.mem_of_getElem? hx)).mono hs) ((ok2 y (List.mem_of_getElem? hy)).mono hs) es
  have hob1 : Ob (oa ≠ none ∧ 0 ≤ (i : Int) ∧ (i : Int) < n2) := h1.ob (by omega) (by omega)
  have hob2 : Ob (ob ≠ none ∧ 0 ≤ (i : Int) ∧ (i : Int) < n2) := h2.ob (by omega) (by omega)
  obtain ⟨y1, y2, y3, y4, y5, y6, y7, y8, y9, y10, ⟨ya, yb, yc, yl⟩, ⟨za, zb, zc, zl⟩, ⟨wa, wb, wc, wl⟩⟩ := x
  obtain ⟨x1, x2, x3, x4, x5, x6, x7, x8, x9, x10, ⟨xa, xb, xc, xl⟩, ⟨ua, ub, uc, ul⟩, ⟨va, vb, vc, vl⟩⟩ := y
  refine ⟨hob1, y1, y2, y3, y4, y5, y6, y7, y8, y9, y10, ya, yb, yc, za, zb, zc, wa, wb, wc, hxr, hob2, x1, x2, x3, x4, x5, x6, x7, x8, x9, x10, xa, xb, xc, ua, ub, uc, va, vb, vc, hyr, hsm.mono ?_⟩
  rintro _ H51 ⟨rfl, hs2⟩
  rw [Rnd.wrapS (by omega) (by omega)]
  exact ⟨true, rfl, fun e => by simp at e, fun _ => ⟨⟨by omega, by omega, hs.trans hs2⟩, ⟨by simp only; omega⟩⟩⟩
theorem sameC_ok {H : PHeap} {oa ob : Option Addr} {n m c d : Nat} {l : List Ch} (h1 : RdL H chE 3 oa n l) (h2 : RdL H chE 3 ob m l) (hn : l.length ≤ 90000000) :
    Triple Tryz.prog 11 #[.slice oa n c, .slice ob m d] H fun v H' => v = .bool true ∧ H' = H := by
  have e1 := h1.len
  have e2 := h2.len
  have hm : m = n := by omega
  subst hm
  refine lawCSame.vc oa m c ob m d H _ ⟨fun h => by simp at h, fun _ => ⟨fun t H' => match t with | [.int _ i] => 0 ≤ i ∧ i ≤ m ∧ H' = H | _ => False, fun t _ => match t with | [.int _ i] => (m - i).toNat | _ => 0, ⟨by omega, by omega, rfl⟩, ?_⟩⟩
  rintro i H1 ⟨i0, i1, hH⟩
  rw [hH]
  refine ⟨fun hi => ?_, fun _ => ⟨rfl, rfl⟩⟩
  have hi' : i < m := by simpa using hi
  obtain ⟨x, hx, hxr⟩ := h1.ex (i := i) (by omega) (by omega)
  refine ⟨H, Sub.refl _, h1.ob (by omega) (by omega), x.k, x.nm, x.tg, hxr, h2.ob (by omega) (by omega), x.k, x.nm, x.tg, h2.at (by omega) hx, fun e => ?_, fun _ => ?_⟩
  · rw [eqS_iff.2 rfl] at e; simp at e
  · rw [wrap64 (n := i + 1) (by omega) (by omega)]
    exact ⟨⟨by omega, by omega, rfl⟩, ⟨by simp only; omega⟩⟩
def zS : Agr.St := init0 ⟨0, 0, 0, 0, 0, 0⟩ 0 ⟨#[]⟩ false false 0
def rx0 : RX := ⟨zS, 0, r0, x0, r0, 0, am0, pl0, pl0, pl0, pl0, pl0⟩
theorem start_okR {H : PHeap} {p : Plan} {b : Int} {c : Ch} :
    Triple Tryz.prog 8 #[p.v, vI b, .agg #[vI c.k, .string c.nm, vI c.tg]] H fun v H' => ∃ k w, v = .tuple #[.pointer (at0 k), w] ∧ OutR H k (start p b c (nameB c.nm)) w H' := by
  refine rcStart.vc p.n p.t p.l p.w p.s p.r b c.k c.nm c.tg H _ fun k hk => ?_
  have s1 := Sub.upd (.cells (cellsR (start0 p b c) rx0).toArray tTr (0, 0)) hk
  have hB : RcB H (H.upd k (.cells (cellsR (start0 p b c) rx0).toArray tTr (0, 0))) k (start0 p b c) rx0 :=
    ⟨s1, hk, Bx.new _ _ _ _, ⟨RdL.nil _ _ _, Nat.le_refl 0, RdL.nil _ _ _, RdL.nil _ _ _, Nat.le_refl 0, RdL.nil _ _ _, rfl, RdL.nil _ _ _⟩, Owns.nil _ _ 3, Off.none _, fun z e => by cases e⟩
  have eH : H.upd k (.cells (cellsR (start0 p b c) rx0).toArray tTr (0, 0)) = H.upd k (.cells #[vI p.n, vI p.t, vI p.l, vI p.w, vI p.s, vI p.r, vI b, vI c.k, .string c.nm, vI c.tg, vI 0, vI 0, vI 0, vI 0, vI 0, vI 0, vI 0, vI 0, .string ⟨#[]⟩, .bool false, .bool false, vI 0, vI 0, .slice none 0 0, .slice none 0 0, .slice none 0 0, vI 0, .bool false, .bool false, .bool false, vI 0, vI 0, vI 0, .slice none 0 0, .slice none 0 0, .slice none 0 0, .slice none 0 0, .slice none 0 0, .slice none 0 0, vI 0, vI 0, vI 0, vI 0, vI 0, .string ⟨#[]⟩, vI 0, vI 0, vI 0, vI 0, vI 0, .slice none 0 0, .slice none 0 0, .slice none 0 0, .slice none 0 0, .string ⟨#[]⟩, .slice none 0 0, .slice none 0 0, .slice none 0 0, .slice none 0 0] tTr (0, 0)) := rfl
  rw [← eH]
  generalize H.upd k (.cells (cellsR (start0 p b c) rx0).toArray tTr (0, 0)) = H1 at hB ⊢
  have hdef : start p b c (nameB c.nm) = if !p.ok || (c.k != 1 && !nameB c.nm) then (start0 p b c, []) else if c.k = 1 then (start0 p b c).round 1 (mNames noS) (ids p) (ids p) else if c.k = 2 then (start0 p b c).agree c.nm true 4 else if c.k = 3 then (start0 p b c).agree c.nm true 6 else (start0 p b c, []) := rfl
  have fin : ∀ {v : Value} {H' : PHeap}, OutR H k (start p b c (nameB c.nm)) v H' → ∃ a n d, v = .slice a n d ∧ ∃ k' w, Value.tuple #[.pointer (at0 k), .slice a n d] = .tuple #[.pointer (at0 k'), w] ∧ OutR H k' (start p b c (nameB c.nm)) w H' := fun {v} {H'} ho => by
    obtain ⟨⟨a, n, d, l, rfl, q⟩, hT⟩ := ho
    exact ⟨a, n, d, rfl, k, _, rfl, ⟨a, n, d, l, rfl, q⟩, hT⟩
  have hend : start p b c (nameB c.nm) = (start0 p b c, []) → ∃ k' w, Value.tuple #[.pointer (at0 k), .slice none 0 0] = .tuple #[.pointer (at0 k'), w] ∧ OutR H k' (start p b c (nameB c.nm)) w H1 := fun e =>
    ⟨k, _, rfl, by rw [e]; exact ⟨SaidL.nil _, H, rx0, Sub.refl _, hB, (fun e => by cases e), fun _ e => absurd rfl e⟩⟩
  have agr : ∀ at', (at' = 2 ∨ at' = 4 ∨ at' = 6) → p.ok = true → start p b c (nameB c.nm) = (start0 p b c).agree c.nm true at' → Triple Tryz.prog 29 #[.pointer (at0 k), .string c.nm, .bool true, vI at'] H1 fun v H' => ∃ a n d, v = .slice a n d ∧ ∃ k' w, Value.tuple #[.pointer (at0 k), .slice a n d] = .tuple #[.pointer (at0 k'), w] ∧ OutR H k' (start p b c (nameB c.nm)) w H' := fun at' ha hp e =>
    (agree_okR (t := start0 p b c) (Sub.refl _) hB hp ha).mono fun v H' ho => fin (by rw [e]; exact ho)
  have rnd : p.ok = true → start p b c (nameB c.nm) = (start0 p b c).round 1 (mNames noS) (ids p) (ids p) → ∃ H18, Vx.Sub H18 H1 ∧ Triple Tryz.prog 28 #[p.v] H1 fun v H' => ∃ a n d, v = .slice a n d ∧ Vx.Sub H18 H' ∧ Triple Tryz.prog 28 #[p.v] H' fun v H' => ∃ a2 n2 d2, v = .slice a2 n2 d2 ∧
      Triple Tryz.prog 27 #[.pointer (at0 k), vI 1, .agg #[vI 6, vI 0, vI 0, vI 0, .string ⟨#[]⟩, vI 0, vI 0, vI 0, vI 0, vI 0, .slice none 0 0, .slice none 0 0, .slice none 0 0], .slice a n d, .slice a2 n2 d2] H' fun v H' => ∃ a n d, v = .slice a n d ∧ ∃ k' w, Value.tuple #[.pointer (at0 k), .slice a n d] = .tuple #[.pointer (at0 k'), w] ∧ OutR H k' (start p b c (nameB c.nm)) w H' := fun hp e => by
    have hil := ids_len' hp
    refine ⟨H1, Sub.refl _, (all_okR (p := p) hp hB.sub).mono ?_⟩
    rintro _ H20 ⟨F1, ⟨b1, n1, c1, rfl, r1⟩, st1⟩
    have h20 := hB.stay st1
    refine ⟨b1, n1, c1, rfl, st1.hsub hB.sub, (all_okR (p := p) hp h20.sub).mono ?_⟩
    rintro _ H25 ⟨F2, ⟨b2, n2, c2, rfl, r2⟩, st2⟩
    have h25 := h20.stay st2
    refine ⟨b2, n2, c2, rfl, (round_okR (at' := 1) (m := (6, 0, 0, 0, ⟨#[]⟩, 0, 0, 0, 0, 0, no3)) (st1.fsub.trans st2.fsub) h25 (.inl rfl) (r1.mono st2.fsub) r2 (by rw [← r1.len]; exact hil) (okM0 _ _ _ _ _ _ _ _ _ _ _)).mono fun v H' ho => fin ?_⟩
    rw [e]
    exact ho
  refine (refRight_ok p).use ⟨_, rfl, fun e => ⟨fun e1 => ⟨fun e2 => ⟨fun e3 => (Lab.refRight_ok c.nm).mono ?_, fun e3 => ?_⟩, fun e2 => ?_⟩, fun e1 => ?_⟩, fun e => ?_⟩
  · have hp : p.ok = true := by simpa using e
    have k1 : ¬ c.k < 1 := by simpa using e1
    have k3 : ¬ c.k > 3 := by simpa using e2
    have k2 : c.k > 1 := by simpa using e3
    rintro _ H16 ⟨nb, rfl, hH, hnb⟩
    rw [hH]
    have hnB := nameB_of hnb
    have hk1 : (c.k != 1) = true := by simp; omega
    refine ⟨nb, rfl, fun e4 => ?_, fun e4 => ?_⟩
    · have e4' : nb = false := by simpa using e4
      exact hend (by rw [hdef, if_pos (by rw [hnB, e4', hk1]; simp)])
    · have e4' : nb = true := by simpa using e4
      rw [if_neg (by rw [hp, hnB, e4']; simp)] at hdef
      refine ⟨fun e5 => ?_, fun e5 => ⟨fun e6 => ?_, fun e6 => ?_⟩⟩
      · have : c.k = 1 := by simpa using e5
        omega
      · have e6' : c.k = 2 := by simpa using e6
        exact agr 4 (.inr (.inl rfl)) hp (by rw [hdef, if_neg (by omega), if_pos e6'])
      · have e6' : ¬ c.k = 2 := by simpa using e6
        exact agr 6 (.inr (.inr rfl)) hp (by rw [hdef, if_neg (by omega), if_neg e6', if_pos (by omega)])
  · have hp : p.ok = true := by simpa using e
    have k1 : ¬ c.k < 1 := by simpa using e1
    have k2 : ¬ c.k > 1 := by simpa using e3
    have hk : c.k = 1 := by omega
    have hk1 : (c.k != 1) = false := by simp; omega
    rw [hp, hk1, if_neg (by simp), if_pos hk] at hdef
    refine ⟨fun e5 => rnd hp hdef, fun e5 => ?_⟩
    have : ¬ c.k = 1 := by simpa using e5
    exact absurd hk this
  · have k3 : c.k > 3 := by simpa using e2
    refine hend ?_
    rw [hdef]
    split
    · rfl
    · rw [if_neg (by omega), if_neg (by omega), if_neg (by omega)]
  · have k1 : c.k < 1 := by simpa using e1
    refine hend ?_
    rw [hdef]
    split
    · rfl
    · rw [if_neg (by omega), if_neg (by omega), if_neg (by omega)]
  · have hp : p.ok = false := by simpa using e
    exact hend (by rw [hdef, if_pos (by rw [hp]; rfl)])
end Go.Cho
namespace Go.Cho
open Go.Vx Go.Vc Go.Proofs Go.Pln Go.Stl Go.Agr
open Go.Rnd (takesG insG froms againG OkM AscG RdR RV)
open Go.Page (limL namesL susL susStep cntL sumN names_ noS stateL)
theorem plays_okO {H : PHeap} {p : Plan} {b : Int} {ch : Ch} {oa : Option Addr} {n c : Nat} {l : List Msg} (hl : RdL H mE 13 oa n l) (hm : ∀ x ∈ l, MsgR H x) (hn : n ≤ maxLen) :
    Triple Tryz.prog 3 #[p.v, .agg #[vI b, vI ch.k, .string ch.nm, vI ch.tg], .slice oa n c] H fun v H' => v = .bool true ∧ Sub H H' := by
  have hll := hl.len
  have al : ∀ {G : PHeap}, Sub H G → Triple Tryz.prog 6 #[] G fun v H' => ∃ b, v = .bool b ∧ (Value.bool b = .bool true ∧ Sub H H') := fun hs => (alive_okO _).mono fun _ _ ⟨e, h⟩ => ⟨true, e, rfl, hs.trans h⟩
  refine lawCPlays.vc p.n p.t p.l p.w p.s p.r b ch.k ch.nm ch.tg oa n c H _ ((farW_ok hl hm hn).mono ?_)
  rintro _ H15 ⟨b16, rfl, hH, hb⟩
  rw [hH]
  refine ⟨b16, rfl, fun _ => al (Sub.refl _), fun e1 => ?_⟩
  have e1' : b16 = false := by
    cases b16 with
    | false => rfl
    | true => cases e1
  obtain ⟨hn2, hok, h12, _⟩ := hb e1'
  refine (start_okO (p := p) (b := b) (c := ch)).mono ?_
  rintro _ H24 ⟨ka, w1, rfl, ⟨hs1, hT0⟩, hk, _⟩
  have hs1' := hs1
  obtain ⟨a1, n1, c1, l1, rfl, q1⟩ := hs1
  refine ⟨at0 ka, a1, n1, c1, rfl, ?_⟩
  have hP0 : Parts H H24 H H24 := ⟨hT0.sub, Sub.refl _, Sub.refl _, hT0.sub, fun q hq => .inr hq⟩
  refine (Triple.part hP0.swap (start_okR (H := H) (p := p) (b := b) (c := ch)) fun v A' ⟨k, w, _, ho⟩ => ho.2.sub).mono ?_
  rintro _ H27 ⟨B0, ⟨kb, w2, rfl, hs2, hR0⟩, hP1⟩
  have hs2' := hs2
  obtain ⟨a2, n2, c2, l2, rfl, q2⟩ := hs2
  have hIR := start_iv (p := p) (b := b) (c := ch) (o := nameB ch.nm)
  have hN0 := near_start (p := p) (b := b) (c := ch) (o := nameB ch.nm)
  have hp0 := start_pT p b ch (nameB ch.nm)
  generalize start p b ch (nameB ch.nm) = S0 at hT0 hs1' hs2' hR0 hIR hN0 hp0 q1 q2
  refine ⟨at0 kb, a2, n2, c2, rfl, fun s H' => match s with | [x, y, .int _ i] => 0 ≤ i ∧ i ≤ n ∧ ∃ A B t L nm, Parts H A B H' ∧ TkS H A ka t ∧ RcS H B kb t ∧ SaidL L x A ∧ SaidL L y B ∧ L.length ≤ 1000 ∧ ((nm : Nat) : Int) ≤ 20 * i ∧ Iv nm t ∧ NearT t ∧ t.p = p | _ => False, fun s _ => match s with | [_, _, .int _ i] => (n + 1 - i).toNat | _ => 0,
    ⟨by omega, by omega, H24, B0, S0.1, S0.2, 0, hP1.swap, hT0, hR0, hs1', hs2', hIR.len, by omega, hIR.iv, hN0, hp0⟩, ?_⟩
  clear hP0 hP1 hT0 hs1' hs2' hR0 hIR hN0 hp0 q1 q2
  rintro xa xn xc ya yn yc i H41 ⟨i0, i1, A, B, t, L, nm, hP, hTA, hRB, hsx, hsy, hL, hnm, hI, hN, htp⟩
  have hH41 : Sub H H41 := hTA.sub.trans hP.a
  refine ⟨fun hi => ?_, fun _ => al hH41⟩
  have htn : t.at_ ≠ 0 → t.p.n ≤ 100 := fun h0 => by
    have := h12 (by rw [← htp]; exact hI.pok h0)
    rw [htp]; omega
  have hf := hI.few
  refine (Triple.part hP (done_okO hTA (by omega)) fun v A' ⟨_, _, _, _, _, hs⟩ => hTA.sub.trans hs).mono ?_
  rintro _ H43 ⟨A1, ⟨db, dn, dc, rfl, hrd, hsA⟩, hP'⟩
  have hTA := hTA.mono hsA
  have hsx := hsx.mono hsA
  refine ⟨db, dn, dc, _, rfl, (sameAll2_ok (hsx.mono hP'.a) (hsy.mono hP'.b) (by omega)).mono ?_⟩
  rintro _ H49 ⟨rfl, s49⟩
  have hPG := hP'.mono s49
  obtain ⟨F, x, hF, hB, hA⟩ := hRB
  have hBx := (hB.bx.sub hP'.b).sub s49
  have hcr := ((hB.ch.rd (E := chE) (sz := 3) (by omega) chLen).mono hP'.b).mono s49
  have hRB : RcS H B kb t := ⟨F, x, hF, hB, hA⟩
  have hrd := (hrd.mono hP'.a).mono s49
  have hHG : Sub H H49 := hTA.sub.trans (hP'.a.trans s49)
  refine ⟨true, rfl, fun _ => ⟨obP kb, obP kb, t.at_, hBx.fld (i := 10) rfl, fun _ => ⟨fun e3 => ?_, fun e3 => ?_⟩, fun e3 => ?_⟩, fun e => by cases e⟩
  · have h0 : t.at_ = 0 := by simpa using e3
    rw [if_pos h0] at hrd
    refine ⟨obP kb, obP kb, _, _, _, hBx.fld (i := 58) rfl, (sameC_ok (l := t.chores) hrd hcr (by omega)).mono ?_⟩
    rintro _ H56 ⟨rfl, hH56⟩
    rw [hH56]
    refine ⟨true, rfl, fun e4 => ?_, fun _ => ⟨fun hi3 => ?_, fun hi3 => ?_⟩⟩
    · rw [decide_eq_true h0] at e4; simp at e4
    · have hi3' : i = n := by simpa using hi3
      exact al hHG
    · have hi3' : ¬ i = n := by simpa using hi3
      have hin : i < n := by omega
      have hlG := hl.mono hHG
      obtain ⟨y, hy, hyr⟩ := hlG.ex (i := i) (by omega) (by omega)
      obtain ⟨hoky, hnear, hnx⟩ := hok y (List.mem_of_getElem? hy)
      have htk := hTA.take (m := y) hI (by omega) htn hoky
      have hrk := take_okR (m := y) hRB hI (by omega) htn hN hoky hnx
      have hIt := take_iv (m := y) hI hTA.agG
      have hNt := near_take (m := y) hN hnx
      have hnl : (names_ y).l.length = (names_ y).n := hoky.ok.names.len
      have hnz : (names_ y).n ≤ 20 := hnear
      rw [hnl] at hIt
      have hpt := (take_pT t y).trans htp
      have hrd0 : Reads H49 (fldA (elemA oa i 13) 0) [vI y.1] := hyr.fld 0 fun j v hv => by
        match j, hv with
        | 0, hv => exact hv
        | j + 1, hv => simp at hv
      have hyrH : Reads H (elemA oa i 13) (mE y) := hl.at (by omega) hy
      refine ⟨hlG.ob (by omega) (by omega), ⟨hlG.elem_ne (by omega) (by omega)⟩, y.1, hrd0, fun e5 => (Triple.part hPG (hTA.tick hI (by omega) htn) fun v A' ho => ho.2.sub).mono ?_, fun e5 => ?_⟩
      · rintro _ H62 ⟨A2, ⟨hsx, hTA2⟩, hP2⟩
        obtain ⟨xa, xn, xc, xl, rfl, qx⟩ := hsx
        refine ⟨xa, xn, xc, rfl, (Triple.part hP2.swap (tick_okR hRB hI (by omega) htn hN) fun v A' ho => ho.2.sub).mono ?_⟩
        rintro _ H67 ⟨B2, ⟨hsy, hRB2⟩, hP3⟩
        obtain ⟨ya, yn, yc, yl, rfl, qy⟩ := hsy
        rw [wrap64 (n := i + 1) (by omega) (by omega)]
        have hIk := tick_iv hI hTA.agG
        exact ⟨ya, yn, yc, rfl, ⟨by omega, by omega, A2, B2, _, _, nm, hP3.swap, hTA2, hRB2, ⟨xa, xn, xc, xl, rfl, qx⟩, ⟨ya, yn, yc, yl, rfl, qy⟩, by have := hIk.len; omega, by omega, hIk.iv, near_tick hN, (tick_pT t).trans htp⟩, ⟨by simp only; omega⟩⟩
      · obtain ⟨y1, y2, y3, y4, y5, y6, y7, y8, y9, y10, ⟨ya, yb, yc, yl⟩, ⟨za, zb, zc, zl⟩, ⟨wa, wb, wc, wl⟩⟩ := y
        refine ⟨H, hHG, hlG.ob (by omega) (by omega), y1, y2, y3, y4, y5, y6, y7, y8, y9, y10, ya, yb, yc, za, zb, zc, wa, wb, wc, hyrH, hlG.ob (by omega) (by omega), y1, y2, y3, y4, y5, y6, y7, y8, y9, y10, ya, yb, yc, za, zb, zc, wa, wb, wc, hyrH, (Triple.part hPG htk fun v A' ho => ho.2.sub).mono ?_⟩
        rintro _ H112 ⟨A2, ⟨hsx, hTA2⟩, hP2⟩
        obtain ⟨xa, xn, xc, xl, rfl, qx⟩ := hsx
        refine ⟨xa, xn, xc, rfl, hTA2.sub.trans hP2.a, (Triple.part hP2.swap hrk fun v A' ho => ho.2.sub).mono ?_⟩
        rintro _ H117 ⟨B2, ⟨hsy, hRB2⟩, hP3⟩
        obtain ⟨ua, un, uc, ul, rfl, qy⟩ := hsy
        rw [wrap64 (n := i + 1) (by omega) (by omega)]
        exact ⟨ua, un, uc, rfl, ⟨by omega, by omega, A2, B2, _, _, nm + zb, hP3.swap, hTA2, hRB2, ⟨xa, xn, xc, xl, rfl, qx⟩, ⟨ua, un, uc, ul, rfl, qy⟩, by have := hIt.len; omega, by have : zb ≤ 20 := hnz; omega, hIt.iv, hNt, hpt⟩, ⟨by simp only; omega⟩⟩
  · have h0 : ¬ t.at_ = 0 := by simpa using e3
    rw [if_neg h0] at hrd
    have hdn : dn = 0 := hrd.len.symm
    subst hdn
    refine ⟨fun e4 => ?_, fun _ => ⟨fun hi3 => ?_, fun hi3 => ?_⟩⟩
    · rw [decide_eq_false h0] at e4; simp at e4
    · have hi3' : i = n := by simpa using hi3
      exact al hHG
    · have hi3' : ¬ i = n := by simpa using hi3
      have hin : i < n := by omega
      have hlG := hl.mono hHG
      obtain ⟨y, hy, hyr⟩ := hlG.ex (i := i) (by omega) (by omega)
      obtain ⟨hoky, hnear, hnx⟩ := hok y (List.mem_of_getElem? hy)
      have htk := hTA.take (m := y) hI (by omega) htn hoky
      have hrk := take_okR (m := y) hRB hI (by omega) htn hN hoky hnx
      have hIt := take_iv (m := y) hI hTA.agG
      have hNt := near_take (m := y) hN hnx
      have hnl : (names_ y).l.length = (names_ y).n := hoky.ok.names.len
      have hnz : (names_ y).n ≤ 20 := hnear
      rw [hnl] at hIt
      have hpt := (take_pT t y).trans htp
      have hrd0 : Reads H49 (fldA (elemA oa i 13) 0) [vI y.1] := hyr.fld 0 fun j v hv => by
        match j, hv with
        | 0, hv => exact hv
        | j + 1, hv => simp at hv
      have hyrH : Reads H (elemA oa i 13) (mE y) := hl.at (by omega) hy
      refine ⟨hlG.ob (by omega) (by omega), ⟨hlG.elem_ne (by omega) (by omega)⟩, y.1, hrd0, fun e5 => (Triple.part hPG (hTA.tick hI (by omega) htn) fun v A' ho => ho.2.sub).mono ?_, fun e5 => ?_⟩
      · rintro _ H62 ⟨A2, ⟨hsx, hTA2⟩, hP2⟩
        obtain ⟨xa, xn, xc, xl, rfl, qx⟩ := hsx
        refine ⟨xa, xn, xc, rfl, (Triple.part hP2.swap (tick_okR hRB hI (by omega) htn hN) fun v A' ho => ho.2.sub).mono ?_⟩
        rintro _ H67 ⟨B2, ⟨hsy, hRB2⟩, hP3⟩
        obtain ⟨ya, yn, yc, yl, rfl, qy⟩ := hsy
        rw [wrap64 (n := i + 1) (by omega) (by omega)]
        have hIk := tick_iv hI hTA.agG
        exact ⟨ya, yn, yc, rfl, ⟨by omega, by omega, A2, B2, _, _, nm, hP3.swap, hTA2, hRB2, ⟨xa, xn, xc, xl, rfl, qx⟩, ⟨ya, yn, yc, yl, rfl, qy⟩, by have := hIk.len; omega, by omega, hIk.iv, near_tick hN, (tick_pT t).trans htp⟩, ⟨by simp only; omega⟩⟩
      · obtain ⟨y1, y2, y3, y4, y5, y6, y7, y8, y9, y10, ⟨ya, yb, yc, yl⟩, ⟨za, zb, zc, zl⟩, ⟨wa, wb, wc, wl⟩⟩ := y
        refine ⟨H, hHG, hlG.ob (by omega) (by omega), y1, y2, y3, y4, y5, y6, y7, y8, y9, y10, ya, yb, yc, za, zb, zc, wa, wb, wc, hyrH, hlG.ob (by omega) (by omega), y1, y2, y3, y4, y5, y6, y7, y8, y9, y10, ya, yb, yc, za, zb, zc, wa, wb, wc, hyrH, (Triple.part hPG htk fun v A' ho => ho.2.sub).mono ?_⟩
        rintro _ H112 ⟨A2, ⟨hsx, hTA2⟩, hP2⟩
        obtain ⟨xa, xn, xc, xl, rfl, qx⟩ := hsx
        refine ⟨xa, xn, xc, rfl, hTA2.sub.trans hP2.a, (Triple.part hP2.swap hrk fun v A' ho => ho.2.sub).mono ?_⟩
        rintro _ H117 ⟨B2, ⟨hsy, hRB2⟩, hP3⟩
        obtain ⟨ua, un, uc, ul, rfl, qy⟩ := hsy
        rw [wrap64 (n := i + 1) (by omega) (by omega)]
        exact ⟨ua, un, uc, rfl, ⟨by omega, by omega, A2, B2, _, _, nm + zb, hP3.swap, hTA2, hRB2, ⟨xa, xn, xc, xl, rfl, qx⟩, ⟨ua, un, uc, ul, rfl, qy⟩, by have := hIt.len; omega, by have : zb ≤ 20 := hnz; omega, hIt.iv, hNt, hpt⟩, ⟨by simp only; omega⟩⟩
  · exfalso
    revert e3
    by_cases h0 : t.at_ = 0
    · rw [decide_eq_true h0, h0]; simp
    · rw [decide_eq_false h0]; simp [h0]
end Go.Cho
