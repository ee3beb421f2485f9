/- The contracts of a chore's object: what an agreement told; what a round takes. · The contract of a name: whether a text is one. · The contracts of a chore's methods: Start, Take, Tick, Done. -/
import Derived.Test.YtajkbeifgghpmaaGreatCPk13
set_option linter.unusedVariables false
set_option maxRecDepth 100000
namespace Go.Cho
open Go.Vx Go.Vc Go.Proofs Go.Pln Go.Stl Go.Agr
open Go.Hp (rest_ok restL restL_spec restL_len Asc asc_ext has_ok refRest_ok)
open Go.Rnd (takesG insG froms againG OkM AscG RdS Both)
open Go.Txt (sE)
open Go.Page (limL namesL susL susStep cntL sumN names_ noS stateL PgT)
/-- All beside the task's own comes to be known. -/
theorem TkB.toA {F A B H : PHeap} {k : Nat} {t : TS} {x : TV} (h : TkB F B k t x) (hP : Parts F A B H) : TkB A H k t x := by
  have hk : A k = none := (hP.apart k h.off).resolve_right h.bk
  have off : ∀ {oa : Option Addr} {ty : TypeId} {sz n c : Nat} {xs : List Value}, Owns B ty sz oa n c xs → Off F oa → Off A oa := fun ho hf z hz => by
    subst hz
    obtain ⟨o, hb⟩ := ho.blk
    exact (hP.apart _ (hf z rfl)).resolve_right (by rw [hb]; simp)
  have h' := h.mono hP.b
  exact ⟨hP.a, hk, h'.bx, h.pn.mono hP.fa, h'.ps, h.nm.mono hP.fa, h.nmc, h'.su, h'.ch, ⟨off h.ps h.ap.ps, off h.su h.ap.su, off h.ch h.ap.ch, h.ap.psk, h.ap.suk, h.ap.chk, h.ap.pu, h.ap.pc, h.ap.uc⟩, h.an, h.aw.mono hP.fa⟩
theorem TkS.mono {H0 H H' : PHeap} {k : Nat} {t : TS} (h : TkS H0 H k t) (hs : Sub H H') : TkS H0 H' k t := by
  obtain ⟨F, A, B, x, h1, h2, h3, h4⟩ := h
  exact ⟨F, A, B, x, h1, h2.mono hs, h3, h4⟩
theorem TkS.weak {H0 H1 H : PHeap} {k : Nat} {t : TS} (h : TkS H1 H k t) (hs : Sub H0 H1) : TkS H0 H k t := by
  obtain ⟨F, A, B, x, h1, h2, h3, h4⟩ := h
  exact ⟨F, A, B, x, hs.trans h1, h2, h3, h4⟩
theorem OutT.weak {H0 H1 : PHeap} {k : Nat} {r : TS × List Msg} {v : Value} {H' : PHeap} (h : OutT H1 k r v H') (hs : Sub H0 H1) : OutT H0 k r v H' := ⟨h.1, h.2.weak hs⟩
/-- Behind nothing. -/
theorem app_nil {H : PHeap} {L : List Msg} {a : Option Addr} {n c : Nat} (h : SaidL L (.slice a n c) H) (hl : L.length ≤ 100000) {K : Value → PHeap → Prop} (hK : ∀ a n c H', Sub H H' → SaidL L (.slice a n c) H' → K (.slice a n c) H') :
    EvV Tryz.prog (Builtin.append_ #[28, 28] 28 #[.slice none 0 0, .slice a n c]) H K := by
  obtain ⟨b, m, d, l, e, h1, h2, h3⟩ := h
  cases e
  have hln := h1.len
  have hll : l.length = L.length := by rw [← h3, List.length_map]
  refine append_rd Rnd.tM (E := mE) (l := []) Rnd.mLen (Owns.nil _ _ 13) h1 Rnd.mOne (by simp [maxLen]; omega) (by omega) ?_
  intro oa' c' H' how hf hfr
  have hs : Sub H H' := hf.sub (Sub.refl _) (Off.none _)
  exact hK _ _ _ _ hs ⟨_, _, _, l, rfl, how.rd (E := mE) (sz := 13) (by omega) Rnd.mLen, fun m hm => (h2 m hm).mono hs, h3⟩
theorem goes_okO {H0 F A B H : PHeap} {k ka : Nat} {t : TS} {x : TV} {b : Nat} {r : Agr.St × List Msg} {v : Value} (h0 : Sub H0 F) (hP : Parts F A B H) (hB : TkB F B k t x) (hj : x.j = jT t.at_) (hg : t.agrees = true) (hxa : x.a = at0 ka) (hi : Iv b t) (hb : b ≤ 80000)
    (hd : Did2 F ka r v A) (hsr : SmlR r) (hp' : r.1.p = t.p) :
    ∃ oa n c, v = .slice oa n c ∧ Triple Tryz.prog 32 #[.pointer (at0 k), .slice oa n c] H (OutT H0 k (t.goes r)) := by
  obtain ⟨⟨oa, n, c, rfl, hrd, hA⟩, hno⟩ := hd
  refine ⟨oa, n, c, rfl, ?_⟩
  have ha := agrees_at hg
  have hat : t.at_ ≠ 0 := by omega
  have hp := hi.pok hat
  have hIv := goes_ok hi hg hsr hp'
  have hB' := hB.mono hP.b
  have hdef : t.goes r = if r.1.over then (if r.1.ok then TS.next { t with A := r.1 } else (TS.over { t with A := r.1 }, [])) else ({ t with A := r.1 }, r.2) := rfl
  refine choGoes.vc (at0 k) oa n c H _ ⟨obP k, obP k, x.a, hB'.bx.fld (i := 10) rfl, ?_⟩
  rw [hxa]
  refine ((done_ok hA).frame hP.a).mono ?_
  rintro _ H7 ⟨A7, ⟨hA7, hv⟩, hs7, hk7⟩
  rw [hA7] at hs7 hk7
  have hP7 := hP.step hs7 hP.fa fun q o h1 h2 => ⟨(hk7 q o h1 h2).1, h2⟩
  have hB7 := hB.mono hP7.b
  rcases hv with ⟨ho, rfl⟩ | ⟨ho, x1, rfl, hS1⟩
  · refine ⟨_, _, _, _, _, _, _, _, _, _, _, _, _, _, _, _, rfl, fun _ => ?_, fun e => by cases e⟩
    rw [hdef, if_neg (by rw [ho]; decide)]
    refine ⟨⟨oa, n, c, r.2, rfl, hrd.mono hP7.a, fun m hm => (hsr.bare m hm).ok _, strip_bares hsr.bare⟩, F, A, B, x, h0, hP7, ⟨hB.sub, hB.off, hB.bx, hB.pn, hB.ps, hB.nm, hB.nmc, hB.su, hB.ch, hB.ap, hB.an, hB.aw⟩, ⟨fun _ => hj, fun _ => ⟨ka, hxa, hA⟩, fun e => ?_, fun e => ?_⟩⟩
    · have : t.agrees = false := e
      rw [hg] at this; cases this
    · have : t.at_ = 1 := e
      omega
  · have hnil := hno ho
    cases hnil
    have hTA := hB.toA hP7
    have hFA : Sub H0 A := h0.trans hP.fa
    refine ⟨_, _, _, _, _, _, _, _, _, _, _, _, _, _, _, _, rfl, fun e => (by cases e), fun _ => ⟨obP k, obP k, ?_⟩⟩
    have w24 := (hTA.bx.writes (cellsT t { x with s := r.1, rx := x1 }) rfl).part (A := (cellsT t x).take 26) (l2 := cellsR r.1 x1) (B := (cellsT t x).drop 35) (old := cellsR x.s x.rx) hTA.bx.reads rfl
    refine ⟨_, w24, ?_⟩
    have hB24 := hTA.wr (t' := { t with A := r.1 }) (x' := { x with s := r.1, rx := x1 }) rfl rfl rfl rfl rfl rfl rfl rfl rfl rfl hTA.an hTA.aw
    have e24 : H7.upd k (.cells (cellsT t { x with s := r.1, rx := x1 }).toArray tTk (0, 0)) = H7.upd k (.cells (cellsT { t with A := r.1 } { x with s := r.1, rx := x1 }).toArray tTk (0, 0)) := rfl
    rw [e24]
    generalize H7.upd k (.cells (cellsT { t with A := r.1 } { x with s := r.1, rx := x1 }).toArray tTk (0, 0)) = H24 at hB24 ⊢
    refine ⟨fun e => ?_, fun e => ?_⟩
    · have hok : r.1.ok = false := by simpa using e
      rw [hdef, if_pos ho, if_neg (by rw [hok]; decide)]
      refine (end_okO hFA hB24).mono ?_
      rintro _ H26 ⟨rfl, hS, _⟩
      exact ⟨none, 0, 0, rfl, SaidL.nil _, hS⟩
    · have hok : r.1.ok = true := by simpa using e
      have hgn : t.goes r = TS.next { t with A := r.1 } := by rw [hdef, if_pos ho, if_pos hok]
      rw [hgn] at hIv ⊢
      have hres : Res A { t with A := r.1 } { x with s := r.1, rx := x1 } := by
        obtain ⟨kr, hAk⟩ := hA
        exact ⟨rfl, hS1, hsr.s, fun m hm => (hAk.inv.okS m hm).mono hP.fa⟩
      have fin : ∀ {v : Value} {H' : PHeap}, OutT H0 k (TS.next { t with A := r.1 }) v H' → ∃ a k1 k2, v = .slice a k1 k2 ∧ EvV Tryz.prog (Builtin.append_ #[28, 28] 28 #[.slice none 0 0, .slice a k1 k2]) H' fun v36 H37 => ∃ a38 k39 k40, v36 = .slice a38 k39 k40 ∧ OutT H0 k (TS.next { t with A := r.1 }) (.slice a38 k39 k40) H37 := fun {v} {H'} hO => by
        obtain ⟨hS, hT⟩ := hO
        obtain ⟨a, n, c, l, rfl, q⟩ := hS
        refine ⟨a, n, c, rfl, app_nil ⟨a, n, c, l, rfl, q⟩ (by have := hIv.len; omega) fun a' n' c' H2 hs hS2 => ⟨a', n', c', rfl, hS2, hT.mono hs⟩⟩
      refine ⟨obP k, obP k, x.j, hB24.bx.fld (i := 25) rfl, ?_⟩
      rw [hj]
      rcases ha with e1 | e1 | e1
      · have hd : TS.next { t with A := r.1 } = TS.named { t with A := r.1 } := by unfold TS.next; rw [if_neg (show ¬ t.at_ = 1 by omega), if_pos (show t.at_ = 2 from e1)]
        have hfew := hi.few
        rw [show jT t.at_ = jT 2 by rw [e1]]
        refine CallY.fn (by kernel_rfl) ((named_okO (t := { t with A := r.1 }) hFA hB24 hp hat (hi.at2 e1) (hi.core.core rfl rfl rfl rfl rfl rfl rfl) hres (by show t.chores.length ≤ _; omega)).mono fun v H' hO => ?_)
        rw [← hd] at hO
        exact fin hO
      · have hd : TS.next { t with A := r.1 } = TS.mend { t with A := r.1 } := by unfold TS.next; rw [if_neg (show ¬ t.at_ = 1 by omega), if_neg (show ¬ t.at_ = 2 by omega), if_pos (show t.at_ = 4 from e1)]
        rw [show jT t.at_ = jT 4 by rw [e1]]
        refine CallY.fn (by kernel_rfl) ((mend_okO (t := { t with A := r.1 }) hFA hB24 hp hat hres).mono fun v H' hO => ?_)
        rw [← hd] at hO
        exact fin hO
      · have hd : TS.next { t with A := r.1 } = TS.purge { t with A := r.1 } := by unfold TS.next; rw [if_neg (show ¬ t.at_ = 1 by omega), if_neg (show ¬ t.at_ = 2 by omega), if_neg (show ¬ t.at_ = 4 by omega), if_pos (show t.at_ = 6 from e1)]
        rw [show jT t.at_ = jT 6 by rw [e1]]
        refine CallY.fn (by kernel_rfl) ((purge_okO (t := { t with A := r.1 }) hFA hB24 hp hat hres).mono fun v H' hO => ?_)
        rw [← hd] at hO
        exact fin hO
/-- Does a round take a message? -/
theorem takes_okO {F H : PHeap} {k : Nat} {t : TS} {x : TV} {m : Msg} (h : TkB F H k t x) (hk : x.am.1 = kT t.at_) (ho : t.at_ = 1 ∨ t.at_ = 3 ∨ t.at_ = 5 ∨ t.at_ = 7) :
    Triple Tryz.prog 43 #[.pointer (at0 k), Rnd.vM m] H fun v H' => v = .bool (t.takes m) ∧ H' = H := by
  have han := h.an
  obtain ⟨y1, y2, y3, y4, y5, y6, y7, y8, y9, y10, ⟨ya, yb, yc, yl⟩, ⟨za, zb, zc, zl⟩, ⟨wa, wb, wc, wl⟩⟩ := m
  have hdef : t.takes (y1, y2, y3, y4, y5, y6, y7, y8, y9, y10, ⟨ya, yb, yc, yl⟩, ⟨za, zb, zc, zl⟩, ⟨wa, wb, wc, wl⟩) = (y4 == t.ballot && eqS y5 t.askN && (if t.at_ = 1 then y1 == 20 else if t.at_ = 3 then y1 == 21 else if t.at_ = 5 then y1 == 25 else y1 == 22 || (y1 == 19 && y10 == 8))) := rfl
  rw [hdef]
  refine choTakes.vc (at0 k) y1 y2 y3 y4 y5 y6 y7 y8 y9 y10 ya yb yc za zb zc wa wb wc H _ ⟨H, Sub.refl _, obP k, obP k, _, h.bx.fld (i := 6) rfl, fun e => ⟨obP k, obP k, obK k 12, _, h.bx.fld (i := 16) rfl, fun e2 => ?_, fun e2 => ⟨obP k, obP k, obK k 12, _, h.bx.fld (i := 12) rfl, fun e3 => ?_, fun e3 => ⟨fun e4 => ?_, fun e4 => ⟨fun e5 => ?_, fun e5 => ?_⟩⟩⟩⟩, fun e => ?_⟩
  · rw [han] at e2
    have : eqS y5 t.askN = false := by simpa using e2
    rw [this]; simp
  all_goals
    try rw [han] at e2
  all_goals
    try have b4 : (y4 == t.ballot) = true := by simpa [bne] using e
  all_goals
    try have b5 : eqS y5 t.askN = true := by simpa using e2
  · have : t.at_ = 1 := by
      rw [hk] at e3
      rcases ho with h | h | h | h <;> rw [h] at e3 <;> first | exact h | (exfalso; revert e3; decide)
    rw [b4, b5, if_pos this]; exact ⟨rfl, rfl⟩
  · have : t.at_ = 3 := by
      rw [hk] at e4
      rcases ho with h | h | h | h <;> rw [h] at e4 <;> first | exact h | (exfalso; revert e4; decide)
    rw [b4, b5, if_neg (by omega), if_pos this]; exact ⟨rfl, rfl⟩
  · have : t.at_ = 5 := by
      rw [hk] at e5
      rcases ho with h | h | h | h <;> rw [h] at e5 <;> first | exact h | (exfalso; revert e5; decide)
    rw [b4, b5, if_neg (by omega), if_neg (by omega), if_pos this]; exact ⟨rfl, rfl⟩
  · have : t.at_ = 7 := by
      rw [hk] at e3 e4 e5
      rcases ho with h | h | h | h
      · rw [h] at e3; exfalso; revert e3; decide
      · rw [h] at e4; exfalso; revert e4; decide
      · rw [h] at e5; exfalso; revert e5; decide
      · exact h
    rw [b4, b5, if_neg (by omega), if_neg (by omega), if_neg (by omega)]
    refine ⟨?_, rfl⟩
    cases y1 == 22 <;> cases y1 == 19 <;> cases y10 == 8 <;> rfl
  · have : (y4 == t.ballot) = false := by simpa [bne] using e
    rw [this]; simp
/-- Does one of those who help tell that it can not? -/
theorem refuses_okO {F H : PHeap} {k : Nat} {t : TS} {x : TV} {m : Msg} (h : TkB F H k t x) (hk : x.am.1 = kT t.at_) (ho : t.at_ = 1 ∨ t.at_ = 3 ∨ t.at_ = 5 ∨ t.at_ = 7) (hw : t.askW.length ≤ 256) :
    Triple Tryz.prog 42 #[.pointer (at0 k), Rnd.vM m] H fun v H' => v = .bool (t.refuses m) ∧ H' = H := by
  have han := h.an
  have hal := h.aw.len
  obtain ⟨y1, y2, y3, y4, y5, y6, y7, y8, y9, y10, ⟨ya, yb, yc, yl⟩, ⟨za, zb, zc, zl⟩, ⟨wa, wb, wc, wl⟩⟩ := m
  have hdef : t.refuses (y1, y2, y3, y4, y5, y6, y7, y8, y9, y10, ⟨ya, yb, yc, yl⟩, ⟨za, zb, zc, zl⟩, ⟨wa, wb, wc, wl⟩) = (t.at_ == 5 && (y1 == 16 || y1 == 19 || y1 == 24) && y10 == 10 && y4 == t.ballot && eqS y5 t.askN && (decide (y2 ∈ t.askW) || y2 == t.c.tg)) := rfl
  have h5 : (x.am.1 == 10) = (t.at_ == 5) := by rw [hk]; rcases ho with h | h | h | h <;> rw [h] <;> rfl
  have hor : (bif y1 == 16 then true else bif y1 == 19 then true else y1 == 24) = (y1 == 16 || y1 == 19 || y1 == 24) := by cases y1 == 16 <;> cases y1 == 19 <;> rfl
  rw [hdef]
  refine choRefuses.vc (at0 k) y1 y2 y3 y4 y5 y6 y7 y8 y9 y10 ya yb yc za zb zc wa wb wc H _ ⟨H, Sub.refl _, obP k, obP k, _, h.bx.fld (i := 6) rfl, fun e => ⟨obP k, obP k, obK k 12, _, h.bx.fld (i := 16) rfl, fun e2 => ⟨obP k, obP k, obK k 12, _, h.bx.fld (i := 12) rfl, H, Sub.refl _, fun e3 => ⟨fun e4 => ⟨fun e5 => ⟨obP k, obP k, obK k 12, _, _, _, h.bx.fld (i := 22) rfl, (Rnd.contains_ok (x := y2) (h.aw.mono h.sub) (by omega)).mono ?_⟩, fun e5 => ?_⟩, fun e4 => ?_⟩, fun e3 => ?_⟩, fun e2 => ⟨H, Sub.refl _, ?_⟩⟩, fun e => ⟨H, Sub.refl _, ?_⟩⟩
  · rintro _ H30 ⟨rfl, hH⟩
    rw [hH]
    rw [han] at e2
    rw [hor] at e3
    rw [h5] at e4
    refine ⟨_, rfl, Sub.refl _, fun e6 => ⟨obP k, obP k, obK k 7, _, h.bx.fld (i := 9) rfl, ?_, rfl⟩, fun e6 => ⟨?_, rfl⟩⟩
    · rw [e2, e3, e4, e5, e, e6]; rfl
    · have e6' : decide (y2 ∈ t.askW) = true := by simpa using e6
      rw [e2, e3, e4, e5, e, e6']; rfl
  · have e5' : (y10 == 10) = false := by simpa using e5
    rw [e5']; simp
  · have e4' : (t.at_ == 5) = false := by rw [← h5]; simpa using e4
    rw [e4']; simp
  · rw [hor] at e3
    have e3' : (y1 == 16 || y1 == 19 || y1 == 24) = false := by simpa using e3
    rw [e3']; simp
  · rw [han] at e2
    have e2' : eqS y5 t.askN = false := by simpa using e2
    refine ⟨?_, rfl⟩
    rw [e2']; cases (bif y1 == 16 then true else bif y1 == 19 then true else y1 == 24) <;> simp
  · have e' : (y4 == t.ballot) = false := by simpa using e
    refine ⟨?_, rfl⟩
    rw [e']; cases (bif y1 == 16 then true else bif y1 == 19 then true else y1 == 24) <;> simp
end Go.Cho
namespace Go.Lab
open Go.Vx Go.Vc Go.Proofs Go.Txt
theorem sign_ok {H : PHeap} (c : Int) : Triple Tryz.prog 53 #[.int .u8 c] H fun v H' => ∃ b, v = .bool b ∧ H' = H ∧ (b = true ↔ signP c) := by
  refine sign.vc c H _ ⟨_, rfl, rfl, ?_⟩
  unfold signP
  simp only [Bool.cond_eq_ite]
  grind
theorem right_ok {H : PHeap} (s : ByteArray) : Triple Tryz.prog 20 #[.string s] H fun v H' => ∃ b, v = .bool b ∧ H' = H ∧ (b = true ↔ NameP s) := by
  refine right.vc s H _ ⟨fun he => ⟨fun hs => ⟨⟨by omega, ?_⟩, fun h0 => ?_, fun h0 => ?_⟩, fun hs => ?_⟩, fun he => ?_⟩
  · have : s ≠ ⟨#[]⟩ := eqS_false.1 he
    have h2 : s.size ≠ 0 := fun e => this (by cases s; simp [ByteArray.size] at e; subst e; rfl)
    omega
  · refine ⟨_, rfl, rfl, ?_⟩
    have h1 : byteAt s 0 = 45 := by simpa using h0
    simp [NameP, h1]
  · have h1 : byteAt s 0 ≠ 45 := by simpa using h0
    have hsz : s.size ≤ 16 := by simp at hs; omega
    have hpos : 1 ≤ s.size := by
      have : s ≠ ⟨#[]⟩ := eqS_false.1 he
      have h2 : s.size ≠ 0 := fun e => this (by cases s; simp [ByteArray.size] at e; subst e; rfl)
      omega
    refine ⟨fun l H' => match l with | [.int _ i] => 0 ≤ i ∧ i ≤ s.size ∧ H' = H ∧ ∀ j : Nat, (j : Int) < i → signP (byteAt s j) | _ => False, fun l _ => match l with | [.int _ i] => (s.size - i).toNat | _ => 0, ⟨by omega, by omega, rfl, fun j hj => by omega⟩, ?_⟩
    rintro i H1 ⟨i0, i1, rfl, hall⟩
    refine ⟨fun hi => ⟨⟨i0, by simpa using hi⟩, (sign_ok _).mono ?_⟩, fun hi => ?_⟩
    · have hi' : i < s.size := by simpa using hi
      rintro _ _ ⟨b, rfl, rfl, hb⟩
      refine ⟨b, rfl, fun h => ⟨_, rfl, rfl, ?_⟩, fun h => ?_⟩
      · have hb' : b = false := by simpa using h
        subst hb'
        simp only [Bool.false_eq_true, false_iff] at hb ⊢
        exact fun hn => hb (by have := hn.2.2.2 i.toNat (by omega); rwa [show ((i.toNat : Nat) : Int) = i by omega] at this)
      · have hb' : b = true := by simpa using h
        rw [wrapS i0 (by omega)]
        refine ⟨⟨by omega, by omega, rfl, fun j hj => ?_⟩, ⟨by simp only; omega⟩⟩
        by_cases e : (j : Int) = i
        · rw [e]; exact hb.1 hb'
        · exact hall j (by omega)
    · have hi' : ¬ i < s.size := by simpa using hi
      exact ⟨_, rfl, rfl, by simp only [true_iff]; exact ⟨hpos, hsz, h1, fun j hj => hall j (by omega)⟩⟩
  · have : ¬ s.size ≤ 16 := by simp at hs; omega
    exact ⟨_, rfl, rfl, by simp only [Bool.false_eq_true, false_iff]; exact fun hn => this hn.2.1⟩
  · have he' : s = ⟨#[]⟩ := eqS_iff.1 (by simpa using he)
    exact ⟨_, rfl, rfl, by simp only [Bool.false_eq_true, false_iff]; exact fun hn => by have := hn.1; rw [he'] at this; simp [ByteArray.size] at this⟩
end Go.Lab
namespace Go.Cho
open Go.Vx Go.Vc Go.Proofs Go.Pln Go.Stl Go.Agr
open Go.Hp (rest_ok restL restL_spec restL_len Asc asc_ext has_ok refRest_ok)
open Go.Rnd (takesG insG froms againG OkM AscG RdS Both)
open Go.Txt (sE)
open Go.Page (limL namesL susL susStep cntL sumN names_ noS stateL PgT)
theorem odd_at {b : Nat} {t : TS} (hi : Iv b t) (hg : t.agrees = false) (h0 : t.at_ ≠ 0) : t.at_ = 1 ∨ t.at_ = 3 ∨ t.at_ = 5 ∨ t.at_ = 7 := by
  have h1 := hi.rng
  unfold TS.agrees at hg
  simp at hg
  omega
theorem TkI.h0 {H0 F A B H : PHeap} {k : Nat} {t : TS} {x : TV} (h : TkI H0 F A B H k t x) : Sub H0 (rest H (ksO k x)) := h.s0.trans (h.all.big).2
/-- A round is judged. -/
theorem next_okO {H0 F A B H : PHeap} {k : Nat} {t : TS} {x : TV} {b : Nat} (h : TkI H0 F A B H k t x) (hi : Iv b t) (hb : b ≤ 80000) (hn : t.p.n ≤ 100) (hg : t.agrees = false) (h0 : t.at_ ≠ 0) {Q : Value → PHeap → Prop}
    (hQ : ∀ v H', OutT H0 k t.next v H' → (t.told = true → t.next.1.at_ = 0 ∨ OutT (rest H (ksO k x)) k t.next v H') → (t.told = false → v = .slice none 0 0 ∧ TkI H0 F A B H' k t x) → Q v H') :
    CallY Tryz.prog (jT t.at_) #[.pointer (at0 k)] H Q := by
  have hans : ∀ {v : Value} {H' : PHeap}, t.next = t.answered → (t.told = allG t.wait t.G) → OutT H0 k t.answered v H' → (allG t.wait t.G = false → v = .slice none 0 0 ∧ TkI H0 F A B H' k t x) → Q v H' := fun {v} {H'} e1 e2 h1 h2 => by
    refine hQ v H' (by rw [e1]; exact h1) (fun e => .inl ?_) fun e => h2 (by rw [← e2]; exact e)
    rw [e1]
    have ea : allG t.wait t.G = true := by rw [← e2]; exact e
    unfold TS.answered
    rw [if_pos ea]; rfl
  rcases odd_at hi hg h0 with e | e
  · have en : t.next = t.listed := by unfold TS.next; rw [if_pos e]
    have et : t.told = (enoughB t || allG t.wait t.G) := by unfold TS.told; rw [e]; simp
    have ed : t.listed = if enoughB t then (if (limL (listL t.G)).1 then TS.name { t.turned with names := t.turned.pn, sus := t.turned.ps } else t.turned.round 1 (mNames t.turned.after) (ids t.p) (ids t.p)) else t.answered := rfl
    rw [show jT t.at_ = jT 1 by rw [e]]
    refine CallY.fn (by kernel_rfl) ((listed_okO h hi hb hn e).mono ?_)
    rintro v H' ⟨h1, h2⟩
    cases he : enoughB t with
    | true =>
      have := h1 he
      rw [← en] at this
      exact hQ v H' (this.weak h.h0) (fun _ => .inr this) fun e' => by rw [et, he] at e'; simp at e'
    | false =>
      obtain ⟨g1, g2⟩ := h2 he
      exact hans (by rw [en, ed, if_neg (by rw [he]; decide)]) (by rw [et, he, Bool.false_or]) g1 g2
  · have e1 : ¬ t.at_ = 1 := by omega
    have en : t.next = t.answered := by unfold TS.next; rw [if_neg e1, if_neg (by omega), if_neg (by omega), if_neg (by omega)]
    have et : t.told = allG t.wait t.G := by
      unfold TS.told
      rw [show (t.at_ == 1) = false by simpa using e1]; rfl
    have ej : jT t.at_ = .func (Fn.func 62) #[] #[] := by
      unfold jT; rw [if_neg e1, if_neg (by omega), if_neg (by omega), if_neg (by omega)]
    rw [ej]
    refine CallY.fn (by kernel_rfl) ((answered_okO h hg h0).mono ?_)
    rintro v H' ⟨h1, h2⟩
    exact hans en et h1 h2
theorem out_self {H0 F A B H : PHeap} {k : Nat} {t : TS} {x : TV} (h : TkI H0 F A B H k t x) : OutT H0 k (t, []) (.slice none 0 0) H := ⟨SaidL.nil _, h.tks⟩
theorem agG {F A : PHeap} {ka : Nat} {s : Agr.St} (h : AgS F A ka s) : s.G.length ≤ 256 := by
  obtain ⟨kr, h⟩ := h
  exact h.inv.len
theorem take_okO {H0 F A B H : PHeap} {k : Nat} {t : TS} {x : TV} {b : Nat} {m : Msg} (h : TkI H0 F A B H k t x) (hi : Iv b t) (hb : b + 100 ≤ 80000) (hn : t.at_ ≠ 0 → t.p.n ≤ 100) (hm : OkC H0 m) :
    Triple Tryz.prog 14 #[.pointer (at0 k), Rnd.vM m] H (OutT H0 k (t.take m)) := by
  have hdef : t.take m = if t.at_ = 0 then (t, []) else if t.agrees then t.goes (t.A.take m) else if t.refuses m then (t.over, []) else if t.takes m && takesG t.wait t.G m then (if allG t.wait (insG t.G m) then (t.got m).next else (t.got m, [])) else (t, []) := rfl
  have hbx := h.bx
  have hmF := hm.mono h.s0
  have hml : (names_ m).l.length ≤ 100 := by rw [hm.ok.names.len]; exact hm.nm
  -- what is called
  have ag : t.agrees = true → t.at_ ≠ 0 → ∃ ka, x.a = at0 ka ∧ Triple Tryz.prog 41 #[.pointer (at0 ka), Rnd.vM m] H fun v H' => ∃ a n c, v = .slice a n c ∧ Triple Tryz.prog 32 #[.pointer (at0 k), .slice a n c] H' fun v H' => ∃ a n c, v = .slice a n c ∧ OutT H0 k (t.goes (t.A.take m)) (.slice a n c) H' := fun hg h0 => by
    obtain ⟨ka, hxa, hA⟩ := h.a.ag hg
    obtain ⟨p1, p2, p3⟩ := hi.ap hg
    refine ⟨ka, hxa, (Triple.part h.parts (take_ok2 hA hmF.ok) fun v A' hd => ?_).mono ?_⟩
    · obtain ⟨⟨_, _, _, _, _, kr, hA'⟩, _⟩ := hd
      exact hA'.sub
    · rintro v H' ⟨A', hd, hP⟩
      obtain ⟨a, n, c, rfl, hT⟩ := goes_okO h.s0 hP h.b (h.a.j h0) hg hxa hi (by omega) hd (p3.take (by rw [p1]; exact hi.pok h0) (agG hA) m) (by rw [take_p, p1])
      exact ⟨a, n, c, rfl, hT.mono fun v H' ho => out_slice ho fun _ h => h⟩
  have rd : t.agrees = false → t.at_ ≠ 0 → ∃ kr, x.a = none ∧ x.am.1 = kT t.at_ ∧ x.r = at0 kr ∧ Triple Tryz.prog 44 #[.pointer (at0 kr), Rnd.vM m] H fun v H' => v = .bool (takesG t.wait t.G m) ∧ Bx H' k tTk (cellsT t x) ∧ ∃ A', (takesG t.wait t.G m = true → TkI H0 F A' B H' k (t.got m) x) ∧ (takesG t.wait t.G m = false → TkI H0 F A' B H' k t x) ∧ (takesG t.wait t.G m = true → Triple Tryz.prog 45 #[.pointer (at0 kr)] H' fun v H2 => v = .bool (allG t.wait (insG t.G m)) ∧ TkI H0 F A' B H2 k (t.got m) x) := fun hg h0 => by
    obtain ⟨g1, g2, kr, asks, got, hr, hR, hB, hs, hok, hGok⟩ := h.a.rd hg h0
    refine ⟨kr, g1, g2, hr, (Triple.part h.parts (Rnd.take_ok (m := m) hR) fun v A' hd => hd.2.sub).mono ?_⟩
    rintro _ H' ⟨A', ⟨rfl, hR'⟩, hP⟩
    have hte := takes_eq (wait := t.wait) hB m
    rw [hte] at hR' ⊢
    have hT1 : takesG t.wait t.G m = true → TkI H0 F A' B H' k (t.got m) x := fun e => by
      rw [e, if_pos rfl] at hR'
      refine ⟨h.s0, hP, ⟨h.b.sub, h.b.off, h.b.bx, h.b.pn, h.b.ps, h.b.nm, h.b.nmc, h.b.su, h.b.ch, h.b.ap, h.b.an, h.b.aw⟩, ⟨h.a.j, fun e' => ?_, fun _ _ => ⟨g1, g2, kr, asks, _, hr, hR', hB.put (takes_new e).2, hs, hok, fun y hy => ?_⟩, h.a.no⟩⟩
      · have : t.agrees = true := e'
        rw [hg] at this; cases this
      · rcases Rnd.mem_ins.1 hy with hy | hy
        · exact hGok y hy
        · rw [hy]; exact hmF
    refine ⟨rfl, h.b.bx.sub hP.b, A', hT1, fun e => ?_, fun e => ?_⟩
    · rw [e, if_neg (by decide)] at hR'
      exact ⟨h.s0, hP, h.b, ⟨h.a.j, (fun e' => by rw [hg] at e'; cases e'), fun _ _ => ⟨g1, g2, kr, asks, got, hr, hR', hB, hs, hok, hGok⟩, h.a.no⟩⟩
    · have hI := hT1 e
      rw [e, if_pos rfl] at hR'
      exact rnd_all (t := t.got m) hI hR' (hB.put (takes_new e).2)
  have tko := fun {H' : PHeap} (hh : TkB F H' k t x) (h1 : x.am.1 = kT t.at_) (h2 : t.at_ = 1 ∨ t.at_ = 3 ∨ t.at_ = 5 ∨ t.at_ = 7) => takes_okO (m := m) hh h1 h2
  have rfo := fun {H' : PHeap} (hh : TkB F H' k t x) (h1 : x.am.1 = kT t.at_) (h2 : t.at_ = 1 ∨ t.at_ = 3 ∨ t.at_ = 5 ∨ t.at_ = 7) => refuses_okO (m := m) hh h1 h2 hi.core.aw
  have hgi : takesG t.wait t.G m = true → Iv (b + 100) (t.got m) := fun e => got_iv hi e hml
  have hgf : (t.got m).agrees = t.agrees ∧ (t.got m).at_ = t.at_ ∧ (t.got m).p = t.p := ⟨rfl, rfl, rfl⟩
  generalize t.got m = tg at *
  generalize t.take m = out at *
  generalize t.takes m = tk at *
  generalize t.refuses m = rf at *
  generalize takesG t.wait t.G m = tkg at *
  generalize t.goes (t.A.take m) = gs at *
  generalize insG t.G m = G' at *
  obtain ⟨y1, y2, y3, y4, y5, y6, y7, y8, y9, y10, ⟨ya, yb, yc, yl⟩, ⟨za, zb, zc, zl⟩, ⟨wa, wb, wc, wl⟩⟩ := m
  refine choTake.vc (at0 k) y1 y2 y3 y4 y5 y6 y7 y8 y9 y10 ya yb yc za zb zc wa wb wc H _ ⟨fun _ => ⟨obP k, obP k, _, hbx.fld (i := 41) rfl, fun e => ?_, fun e => ⟨obP k, obP k, x.a, hbx.fld (i := 10) rfl, fun e2 => ?_, fun e2 => ?_⟩⟩, fun e => by simp [at0] at e⟩
  · have h0 : t.at_ = 0 := by simpa using e
    rw [hdef, if_pos h0]
    exact out_self h
  all_goals have h0 : t.at_ ≠ 0 := by simpa using e
  all_goals rw [if_neg h0] at hdef
  · have hg : t.agrees = true := by
      cases hg : t.agrees with
      | true => rfl
      | false =>
        obtain ⟨kr, g1, _⟩ := rd hg h0
        rw [g1] at e2; simp at e2
    rw [if_pos hg] at hdef
    obtain ⟨ka, hxa, hT⟩ := ag hg h0
    rw [hdef]
    refine ⟨H, Sub.refl _, obP k, obP k, x.a, hbx.fld (i := 10) rfl, ?_⟩
    rw [hxa]
    exact hT
  · have hg : t.agrees = false := by
      cases hg : t.agrees with
      | false => rfl
      | true =>
        obtain ⟨ka, hxa, _⟩ := ag hg h0
        rw [hxa] at e2; simp [at0] at e2
    rw [if_neg (by rw [hg]; decide)] at hdef
    obtain ⟨kr, g1, g2, g3, hRT⟩ := rd hg h0
    have hod := odd_at hi hg h0
    refine (rfo h.all g2 hod).mono ?_
    rintro _ H36 ⟨rfl, hH36⟩
    rw [hH36]
    refine ⟨_, rfl, fun e3 => ?_, fun e3 => ⟨only H k, only_sub hbx hbx, (tko h.all g2 hod).mono ?_⟩⟩
    · rw [if_pos e3] at hdef
      rw [hdef]
      exact end_out h.s0 h.all fun _ h => h
    rw [if_neg (by rw [e3]; decide)] at hdef
    rintro _ H45 ⟨rfl, hH45⟩
    rw [hH45]
    refine ⟨_, rfl, only_sub hbx hbx, fun e4 => ⟨obP k, obP k, x.r, (only_bx hbx).fld (i := 11) rfl, ?_⟩, fun e4 => ?_⟩
    · have e4' : tk = true := by simpa using e4
      rw [e4', Bool.true_and] at hdef
      rw [g3]
      refine hRT.mono ?_
      rintro _ H49 ⟨rfl, b49, A', k1, k2, k3⟩
      refine ⟨_, rfl, only_sub hbx b49, fun e5 => ⟨obP k, obP k, x.r, (only_bx hbx).fld (i := 11) rfl, ?_⟩, fun e5 => ?_⟩
      · have e5' : tkg = true := by simpa using e5
        rw [if_pos e5'] at hdef
        rw [g3]
        refine (k3 e5').mono ?_
        rintro _ H53 ⟨rfl, hI⟩
        refine ⟨_, rfl, fun e6 => ?_, fun e6 => ⟨obP k, obP k, x.j, hI.bx.fld (i := 25) rfl, ?_⟩⟩
        · have e6' : allG t.wait G' = false := by simpa using e6
          rw [if_neg (by rw [e6']; decide)] at hdef
          rw [hdef]
          exact out_self hI
        · have e6' : allG t.wait G' = true := by simpa using e6
          rw [if_pos e6'] at hdef
          rw [hdef, h.a.j h0, ← hgf.2.1]
          refine next_okO hI (hgi e5') (by omega) (by rw [hgf.2.2]; exact hn h0) (by rw [hgf.1]; exact hg) (by rw [hgf.2.1]; exact h0) ?_
          exact fun v H' ho _ _ => out_slice ho fun _ h => h
      · have e5' : tkg = false := by simpa using e5
        rw [if_neg (by rw [e5']; decide)] at hdef
        rw [hdef]
        exact out_self (k2 e5')
    · have e4' : tk = false := by simpa using e4
      rw [e4', Bool.false_and, if_neg (by decide)] at hdef
      rw [hdef]
      exact out_self h
theorem strip_again (asks G : List Msg) : (againG asks G).map strip = againG (asks.map strip) G := by
  unfold againG
  rw [List.filter_map]
  rfl
theorem tick_okO {H0 F A B H : PHeap} {k : Nat} {t : TS} {x : TV} {b : Nat} (h : TkI H0 F A B H k t x) (hi : Iv b t) (hb : b ≤ 80000) (hn : t.at_ ≠ 0 → t.p.n ≤ 100) :
    Triple Tryz.prog 12 #[.pointer (at0 k)] H (OutT H0 k t.tick) := by
  have hdef : t.tick = if t.at_ = 0 then (t, []) else if t.agrees then t.goes t.A.tick else if t.told then t.next else t.late := rfl
  have hbx := h.bx
  refine choTick.vc (at0 k) H _ ⟨fun _ => ⟨obP k, obP k, _, hbx.fld (i := 41) rfl, fun e => ?_, fun e => ⟨obP k, obP k, x.a, hbx.fld (i := 10) rfl, fun e2 => ?_, fun e2 => ?_⟩⟩, fun e => by simp [at0] at e⟩
  · have h0 : t.at_ = 0 := by simpa using e
    rw [hdef, if_pos h0]
    exact out_self h
  all_goals have h0 : t.at_ ≠ 0 := by simpa using e
  all_goals rw [if_neg h0] at hdef
  · have hg : t.agrees = true := by
      cases hg : t.agrees with
      | true => rfl
      | false =>
        obtain ⟨g1, _⟩ := h.a.rd hg h0
        rw [g1] at e2; simp at e2
    rw [if_pos hg] at hdef
    obtain ⟨ka, hxa, hA⟩ := h.a.ag hg
    obtain ⟨p1, p2, p3⟩ := hi.ap hg
    rw [hdef]
    refine ⟨obP k, obP k, x.a, hbx.fld (i := 10) rfl, ?_⟩
    rw [hxa]
    refine (Triple.part h.parts (tick_ok2 hA) fun v A' hd => ?_).mono ?_
    · obtain ⟨⟨_, _, _, _, _, kr, hA'⟩, _⟩ := hd
      exact hA'.sub
    · rintro v H' ⟨A', hd, hP⟩
      obtain ⟨a, n, c, rfl, hT⟩ := goes_okO h.s0 hP h.b (h.a.j h0) hg hxa hi hb hd (p3.tick (by rw [p1]; exact hi.pok h0) (agG hA)) (by rw [tick_p, p1])
      exact ⟨a, n, c, rfl, hT.mono fun v H' ho => out_slice ho fun _ h => h⟩
  · have hg : t.agrees = false := by
      cases hg : t.agrees with
      | false => rfl
      | true =>
        obtain ⟨ka, hxa, _⟩ := h.a.ag hg
        rw [hxa] at e2; simp [at0] at e2
    rw [if_neg (by rw [hg]; decide)] at hdef
    obtain ⟨g1, g2, kr, asks, got, hr, hR, hB, hs, hok, hGok⟩ := h.a.rd hg h0
    refine ⟨obP k, obP k, x.r, hbx.fld (i := 11) rfl, obP k, obP k, x.j, hbx.fld (i := 25) rfl, ?_⟩
    rw [h.a.j h0]
    refine next_okO h hi hb (hn h0) hg h0 ?_
    intro v H18 hO hto hno
    obtain ⟨j, hj, hjs⟩ := info_ok (P := Tryz.prog) (t := tRd) (by kernel_rfl)
    cases htd : t.told with
    | true =>
      rw [htd, if_pos rfl] at hdef
      rw [hdef]
      obtain ⟨hS, F', A', B', x', hs', hP', hB', hA'⟩ := hO
      have hb18 := hB'.bx.sub hP'.b
      obtain ⟨a, n, c, l, rfl, q⟩ := hS
      have hfin : OutT H0 k t.next (.slice a n c) H18 := ⟨⟨a, n, c, l, rfl, q⟩, F', A', B', x', hs', hP', hB', hA'⟩
      refine ⟨a, n, c, rfl, obP k, obP k, _, hb18.fld (i := 41) rfl, fun e3 => ?_, fun _ => hfin⟩
      have h0' : t.next.1.at_ ≠ 0 := by simpa using e3
      have hbig := (hto htd).resolve_left h0'
      obtain ⟨hS2, F2, A2, B2, x2, hs2, hP2, hB2, hA2⟩ := hbig
      have hb2 := hB2.bx.sub hP2.b
      refine ⟨obP k, obP k, x2.a, hb2.fld (i := 10) rfl, fun e4 => ?_, fun _ => hfin⟩
      have hg2 : t.next.1.agrees = false := by
        cases hg2 : t.next.1.agrees with
        | false => rfl
        | true =>
          obtain ⟨ka, hxa, _⟩ := hA2.ag hg2
          rw [hxa] at e4; simp [at0] at e4
      obtain ⟨_, _, kr2, asks2, got2, hr2, hR2, _⟩ := hA2.rd hg2 h0'
      obtain ⟨l1, hl1⟩ := RdS_bx hR
      obtain ⟨l2, hl2⟩ := RdS_bx hR2
      have hkA : A kr ≠ none := by
        unfold Bx at hl1
        rw [hl1]; simp
      have hkr : kr ∉ ksO k x := fun hq => by
        have own : ∀ {oa : Option Addr} {ty : TypeId} {sz n c : Nat} {xs : List Value}, Owns B ty sz oa n c xs → Off F oa → ∀ z, oa = some z → z.block ≠ kr := fun ho hf z hz e => by
          subst hz
          obtain ⟨o, hbb⟩ := ho.blk
          have := (h.parts.apart _ (hf z rfl)).resolve_right (by rw [hbb]; simp)
          rw [e] at this
          exact hkA this
        rcases mem_ksO.1 hq with e | ⟨z, hz, e⟩ | ⟨z, hz, e⟩ | ⟨z, hz, e⟩
        · have := (h.parts.apart k h.b.off).resolve_right h.b.bk
          rw [← e] at this
          exact hkA this
        · exact own h.b.ps h.b.ap.ps z hz e
        · exact own h.b.su h.b.ap.su z hz e
        · exact own h.b.ch h.b.ap.ch z hz e
      have hold : Bx (rest H (ksO k x)) kr tRd l1 := by
        unfold Bx
        rw [rest_at hkr]; exact hl1.sub h.parts.a
      have hne : kr2 ≠ kr := fun e => by
        have h1 := hold.sub hs2
        unfold Bx at h1
        rw [← e, hR2.off] at h1; cases h1
      refine ⟨obP k, obP k, x2.r, hb2.fld (i := 11) rfl, ?_⟩
      rw [hr2, hr]
      refine ptr_neq (tp := 66) (te := tRd) (by kernel_rfl) hj hjs (hl2.sub hP2.a) (hold.sub (hs2.trans (hP2.fa.trans hP2.a))) ⟨_, rfl, fun _ => hfin, fun e5 => ?_⟩
      rw [decide_eq_false hne] at e5; cases e5
    | false =>
      rw [htd, if_neg (by decide)] at hdef
      rw [hdef]
      obtain ⟨rfl, h18⟩ := hno htd
      have hb18 := h18.bx
      obtain ⟨l1, hl1⟩ := RdS_bx hR
      have hl18 := hl1.sub h18.parts.a
      refine ⟨none, 0, 0, rfl, obP k, obP k, _, hb18.fld (i := 41) rfl, fun _ => ⟨obP k, obP k, x.a, hb18.fld (i := 10) rfl, fun _ => ⟨obP k, obP k, x.r, hb18.fld (i := 11) rfl, ?_⟩, fun e4 => ?_⟩, fun e3 => ?_⟩
      · rw [hr]
        refine ptr_neq (tp := 66) (te := tRd) (by kernel_rfl) hj hjs hl18 hl18 ⟨_, rfl, fun e5 => ?_, fun _ => ⟨obP k, obP k, x.r, hb18.fld (i := 11) rfl, ?_⟩⟩
        · simp at e5
        rw [hr]
        have hld : t.late = if t.tries = 0 then (t.over, []) else ({ t with tries := IntKind.i64.wrap (t.tries - 1) }, againG t.asks t.G) := rfl
        refine (Triple.part h18.parts (Rnd.tick_ok hR) fun v A' hd => ?_).mono ?_
        · rcases hd with ⟨_, _, hR', _⟩ | ⟨_, hR', _⟩ <;> exact hR'.sub
        rintro _ H29 ⟨A', hd, hP⟩
        rcases hd with ⟨ht, rfl, hR', _⟩ | ⟨ht, hR', b2, n2, c2, rfl, hrd⟩
        · rw [hld, if_pos ht]
          refine ⟨none, 0, 0, true, rfl, fun _ => ?_, fun e => by cases e⟩
          exact end_out h.s0 (h.b.mono hP.b) fun _ h => h
        · rw [hld, if_neg ht]
          refine ⟨b2, n2, c2, false, rfl, (fun e => by cases e), fun _ => ⟨⟨b2, n2, c2, _, rfl, hrd.mono hP.a, fun m hm => ?_, ?_⟩, F, A', B, x, h.s0, hP, ⟨h.b.sub, h.b.off, h.b.bx, h.b.pn, h.b.ps, h.b.nm, h.b.nmc, h.b.su, h.b.ch, h.b.ap, h.b.an, h.b.aw⟩, ⟨h.a.j, fun e' => ?_, fun _ _ => ⟨g1, g2, kr, asks, got, hr, hR', hB, hs, hok, hGok⟩, h.a.no⟩⟩⟩
          · exact (hok m (List.mem_filter.1 hm).1).mono (hP.fa.trans hP.a)
          · rw [again_eq hB, strip_again, hs]
          · have : t.agrees = true := e'
            rw [hg] at this; cases this
      · rw [g1] at e4; cases e4
      · have : decide (t.at_ = 0) = true := by simpa using e3
        exact absurd (by simpa using this) h0
open Classical in
/-- A text is a name. -/
noncomputable def nameB (s : ByteArray) : Bool := decide (Lab.NameP s)
theorem nameB_of {s : ByteArray} {b : Bool} (h : b = true ↔ Lab.NameP s) : nameB s = b := by
  unfold nameB
  cases b with
  | true => exact @decide_eq_true _ (Classical.propDecidable _) (h.1 rfl)
  | false => exact @decide_eq_false _ (Classical.propDecidable _) fun hn => by have := h.2 hn; cases this
def am0 : Msg := (0, 0, 0, 0, ⟨#[]⟩, 0, 0, 0, 0, 0, no3)
def tv0 (p : Plan) (b : Int) : TV := ⟨none, none, am0, .nilFunc, init0 p b ⟨#[]⟩ false false 0, x0, pl0, pl0, pl0, pl0, pl0⟩
theorem start_okO {H : PHeap} {p : Plan} {b : Int} {c : Ch} :
    Triple Tryz.prog 7 #[p.v, vI b, .agg #[vI c.k, .string c.nm, vI c.tg]] H fun v H' => ∃ k w, v = .tuple #[.pointer (at0 k), w] ∧ OutT H k (start p b c (nameB c.nm)) w H' ∧ H k = none ∧ (c.k = 1 → p.ok = true → OutF H k (start p b c (nameB c.nm)) w H') := by
  refine choStart.vc p.n p.t p.l p.w p.s p.r b c.k c.nm c.tg H _ fun k hk => ?_
  let t8 : TS := { start0 p b c with at_ := 8 }
  have s1 := Sub.upd (.cells (cellsT t8 (tv0 p b)).toArray tTk (0, 0)) hk
  have hB : TkB H (H.upd k (.cells (cellsT t8 (tv0 p b)).toArray tTk (0, 0))) k t8 (tv0 p b) :=
    ⟨s1, hk, Bx.new _ _ _ _, RdL.nil _ _ _, Owns.nil _ _ 1, RdL.nil _ _ _, Nat.le_refl 0, Owns.nil _ _ 1, Owns.nil _ _ 3, ⟨Off.none _, Off.none _, Off.none _, (fun z e => by cases e), (fun z e => by cases e), (fun z e => by cases e), (fun z y e => by cases e), (fun z y e => by cases e), (fun z y e => by cases e)⟩, rfl, RdL.nil _ _ _⟩
  have eH : H.upd k (.cells (cellsT t8 (tv0 p b)).toArray tTk (0, 0)) = H.upd k (.cells #[vI p.n, vI p.t, vI p.l, vI p.w, vI p.s, vI p.r, vI b, vI c.k, .string c.nm, vI c.tg, .pointer none, .pointer none, vI 0, vI 0, vI 0, vI 0, .string ⟨#[]⟩, vI 0, vI 0, vI 0, vI 0, vI 0, .slice none 0 0, .slice none 0 0, .slice none 0 0, .nilFunc, .bool false, .bool false, .bool false, vI 0, vI 0, vI 0, .slice none 0 0, .slice none 0 0, .slice none 0 0, .slice none 0 0, .string ⟨#[]⟩, .slice none 0 0, .slice none 0 0, .slice none 0 0, .slice none 0 0, .bool false] tTk (0, 0)) := rfl
  rw [← eH]
  generalize H.upd k (.cells (cellsT t8 (tv0 p b)).toArray tTk (0, 0)) = H1 at hB ⊢
  have fin : ∀ {r : TS × List Msg} {v : Value} {H' : PHeap}, OutT H k r v H' → start p b c (nameB c.nm) = r → (c.k = 1 → p.ok = true → OutF H k r v H') → ∃ a n d, v = .slice a n d ∧ ∃ k' w, Value.tuple #[.pointer (at0 k), .slice a n d] = .tuple #[.pointer (at0 k'), w] ∧ OutT H k' (start p b c (nameB c.nm)) w H' ∧ H k' = none ∧ (c.k = 1 → p.ok = true → OutF H k' (start p b c (nameB c.nm)) w H') := fun {r} {v} {H'} ho e hf => by
    obtain ⟨⟨a, n, d, l, rfl, q⟩, hT⟩ := ho
    exact ⟨a, n, d, rfl, k, _, rfl, by rw [e]; exact ⟨⟨a, n, d, l, rfl, q⟩, hT⟩, hk, by rw [e]; exact hf⟩
  have hend : start p b c (nameB c.nm) = (start0 p b c, []) → Triple Tryz.prog 21 #[.pointer (at0 k)] H1 fun v H' => ∃ a n d, v = .slice a n d ∧ ∃ k' w, Value.tuple #[.pointer (at0 k), .slice a n d] = .tuple #[.pointer (at0 k'), w] ∧ OutT H k' (start p b c (nameB c.nm)) w H' ∧ H k' = none ∧ (c.k = 1 → p.ok = true → OutF H k' (start p b c (nameB c.nm)) w H') := fun e => by
    refine (end_okO (Sub.refl _) hB).mono ?_
    rintro _ H' ⟨rfl, hS, _⟩
    exact fin (r := (start0 p b c, [])) ⟨SaidL.nil _, hS⟩ e fun _ _ => ⟨H, Sub.refl _, SaidL.nil _, hS⟩
  have hdef : start p b c (nameB c.nm) = if !p.ok || (c.k != 1 && !nameB c.nm) then (start0 p b c, []) else if c.k = 1 then (start0 p b c).round 1 (mNames noS) (ids p) (ids p) else if c.k = 2 then (start0 p b c).agree c.nm true 4 else if c.k = 3 then (start0 p b c).agree c.nm true 6 else (start0 p b c, []) := rfl
  have body : p.ok = true → (!p.ok || (c.k != 1 && !nameB c.nm)) = false → ((c.k == 1) = true → Triple Tryz.prog 22 #[.pointer (at0 k)] H1 fun v H' => ∃ a n d, v = .slice a n d ∧ ∃ k' w, Value.tuple #[.pointer (at0 k), .slice a n d] = .tuple #[.pointer (at0 k'), w] ∧ OutT H k' (start p b c (nameB c.nm)) w H' ∧ H k' = none ∧ (c.k = 1 → p.ok = true → OutF H k' (start p b c (nameB c.nm)) w H')) ∧
      ((c.k == 1) = false → ((c.k == 2) = true → Triple Tryz.prog 23 #[.pointer (at0 k), .string c.nm, .bool true, jT 4] H1 fun v H' => ∃ a n d, v = .slice a n d ∧ ∃ k' w, Value.tuple #[.pointer (at0 k), .slice a n d] = .tuple #[.pointer (at0 k'), w] ∧ OutT H k' (start p b c (nameB c.nm)) w H' ∧ H k' = none ∧ (c.k = 1 → p.ok = true → OutF H k' (start p b c (nameB c.nm)) w H')) ∧
        ((c.k == 2) = false → ((c.k == 3) = true → Triple Tryz.prog 23 #[.pointer (at0 k), .string c.nm, .bool true, jT 6] H1 fun v H' => ∃ a n d, v = .slice a n d ∧ ∃ k' w, Value.tuple #[.pointer (at0 k), .slice a n d] = .tuple #[.pointer (at0 k'), w] ∧ OutT H k' (start p b c (nameB c.nm)) w H' ∧ H k' = none ∧ (c.k = 1 → p.ok = true → OutF H k' (start p b c (nameB c.nm)) w H')) ∧
          ((c.k == 3) = false → Triple Tryz.prog 21 #[.pointer (at0 k)] H1 fun v H' => ∃ a n d, v = .slice a n d ∧ ∃ k' w, Value.tuple #[.pointer (at0 k), .slice a n d] = .tuple #[.pointer (at0 k'), w] ∧ OutT H k' (start p b c (nameB c.nm)) w H' ∧ H k' = none ∧ (c.k = 1 → p.ok = true → OutF H k' (start p b c (nameB c.nm)) w H')))) := fun hp hno => by
    rw [if_neg (by rw [hno]; decide)] at hdef
    refine ⟨fun e1 => ?_, fun e1 => ⟨fun e2 => ?_, fun e2 => ⟨fun e3 => ?_, fun e3 => ?_⟩⟩⟩
    · have e1' : c.k = 1 := by simpa using e1
      rw [if_pos e1'] at hdef
      exact (list_okF (t := t8) (Sub.refl _) hB hp rfl ⟨rfl, rfl, rfl⟩).mono fun v H' ho => fin ho.out hdef fun _ _ => ho
    all_goals have e1' : ¬ c.k = 1 := by simpa using e1
    all_goals rw [if_neg e1'] at hdef
    · have e2' : c.k = 2 := by simpa using e2
      rw [if_pos e2'] at hdef
      exact (agree_okO (t := t8) (at' := 4) (Sub.refl _) hB hp (.inr trivial) (.inr (.inl rfl)) rfl).mono fun v H' ho => fin ho hdef fun e _ => absurd e e1'
    all_goals have e2' : ¬ c.k = 2 := by simpa using e2
    all_goals rw [if_neg e2'] at hdef
    · have e3' : c.k = 3 := by simpa using e3
      rw [if_pos e3'] at hdef
      exact (agree_okO (t := t8) (at' := 6) (Sub.refl _) hB hp (.inr trivial) (.inr (.inr rfl)) rfl).mono fun v H' ho => fin ho hdef fun e _ => absurd e e1'
    · have e3' : ¬ c.k = 3 := by simpa using e3
      rw [if_neg e3'] at hdef
      exact hend hdef
  refine (right_ok p).use ⟨_, rfl, fun e => ⟨fun e1 => (Lab.right_ok c.nm).mono ?_, fun e1 => ?_⟩, fun e => ?_⟩
  · have hp : p.ok = true := by simpa using e
    rintro _ H16 ⟨nb, rfl, hH, hnb⟩
    rw [hH]
    have hnB := nameB_of hnb
    refine ⟨nb, rfl, fun e2 => ?_, fun e2 => ?_⟩
    · have e2' : nb = false := by simpa using e2
      refine hend ?_
      rw [hdef, if_pos (by rw [hnB, e2', e1]; simp)]
    · have e2' : nb = true := by simpa using e2
      exact body hp (by rw [hp, hnB, e2']; simp)
  · have hp : p.ok = true := by simpa using e
    have e1' : (c.k != 1) = false := by simpa using e1
    exact body hp (by rw [hp, e1']; rfl)
  · have hp : p.ok = false := by simpa using e
    refine hend ?_
    rw [hdef, if_pos (by rw [hp]; rfl)]
theorem cloneC_ok {H : PHeap} {oa : Option Addr} {n c : Nat} {l : List Ch} (hl : RdL H chE 3 oa n l) (hn : n ≤ 100000000) :
    Triple Tryz.prog 30 #[.slice oa n c] H fun v H' => ∃ b k, v = .slice b n k ∧ RdL H' chE 3 b n l ∧ Sub H H' := by
  refine cloneC.vc oa n c H _ ⟨fun h => ?_, fun h k4 hk4 => ?_⟩
  · have ho : oa = none := by simpa using h
    have hn0 := hl.pos ho
    subst ho hn0
    exact ⟨none, 0, rfl, hl, Sub.refl _⟩
  · have s4 := Sub.upd (.cells #[] 34 (0, 0)) hk4
    refine append_rd tCh (E := chE) (l := []) chLen (Owns.empty H k4 _ 3) (hl.mono s4) chOne (by simp [maxLen]; omega) (by omega) ?_
    intro oa' c' H' how hf hfr
    have e : 0 + n = n := by omega
    rw [e] at how
    refine ⟨oa', 0 + n, c', rfl, oa', c', by rw [e], how.rd (E := chE) (sz := 3) (by omega) chLen, hf.sub s4 (off_at0 hk4)⟩
theorem done_okO {H0 H : PHeap} {k : Nat} {t : TS} (h : TkS H0 H k t) (hl : t.chores.length ≤ 90000000) :
    Triple Tryz.prog 9 #[.pointer (at0 k)] H fun v H' => ∃ b n c, v = .tuple #[.slice b n c, .bool (decide (t.at_ = 0))] ∧ RdL H' chE 3 b n (if t.at_ = 0 then t.chores else []) ∧ Sub H H' := by
  obtain ⟨F, A, B, x, h1, h2, h3, h4⟩ := h
  have hb := h3.bx.sub h2.b
  have hch := (h3.mono h2.b).ch.rd (E := chE) (sz := 3) (by omega) chLen
  have hcl := hch.len
  refine choDone.vc (at0 k) H _ ⟨fun _ => ⟨obP k, obP k, _, hb.fld (i := 41) rfl, fun e => ?_, fun e => ⟨obP k, obP k, _, _, _, hb.fld (i := 40) rfl, (cloneC_ok hch (by omega)).mono ?_⟩⟩, fun e => by simp [at0] at e⟩
  · have h0 : ¬ t.at_ = 0 := by simpa using e
    rw [decide_eq_false h0, if_neg h0]
    exact ⟨none, 0, 0, rfl, RdL.nil _ _ _, Sub.refl _⟩
  · have h0 : t.at_ = 0 := by simpa using e
    rintro _ H' ⟨b, q, rfl, hr, hs⟩
    rw [decide_eq_true h0, if_pos h0]
    exact ⟨b, _, q, rfl, b, _, q, rfl, hr, hs⟩
end Go.Cho
