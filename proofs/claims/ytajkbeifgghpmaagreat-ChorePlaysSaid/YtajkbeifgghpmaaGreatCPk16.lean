/- The document's chore: behind an agreement. · The document's chore: its methods. · The document's chore: Take, Tick, Start; its names stay rising and short. · What is to be shown of each function, in its normal form.  · What the laws of a chore share: what is too much, and the document's example. -/
import Derived.Test.YtajkbeifgghpmaaGreatProg
import Derived.Test.YtajkbeifgghpmaaGreatCPk15
set_option linter.unusedVariables false
set_option maxRecDepth 100000
namespace Go.Cho
open Go.Vx Go.Vc Go.Proofs Go.Pln Go.Stl Go.Agr
open Go.Hp (rest_ok restL restL_spec restL_len Asc asc_ext has_ok refRest_ok)
open Go.Rnd (takesG insG froms againG OkM AscG RdR RV)
open Go.Txt (sE)
open Go.Page (limL namesL susL susStep cntL sumN names_ noS stateL)
theorem tChR : ElemT Tryz.prog 55 25 3 32 := .of (by kernel_rfl)
/-- A chore more. -/
theorem chApp {F H : PHeap} {k : Nat} {t : TS} {x : RX} (h : RcB F H k t x) (hb : t.chores.length ≤ 90000000) (c : Ch) {kx : Nat} (hkx : H kx = none) {K : Value → PHeap → Prop}
    (hK : ∀ oa' c' H1, Bx H1 k tTr (cellsR t x) → RcB F (H1.upd k (.cells (cellsR { t with chores := t.chores ++ [c] } { x with ch := ⟨oa', x.ch.n + 1, c'⟩ }).toArray tTr (0, 0))) k { t with chores := t.chores ++ [c] } { x with ch := ⟨oa', x.ch.n + 1, c'⟩ } → K (.slice oa' (x.ch.n + 1) c') H1) :
    EvV Tryz.prog (Builtin.append_ #[55, 55] 55 #[.slice x.ch.a x.ch.n x.ch.c, .slice (at0 kx) 1 1]) (H.upd kx (.cells #[vI c.k, .string c.nm, vI c.tg] 25)) K := by
  have hl := (h.ch.rd (E := chE) (sz := 3) (by omega) chLen).len
  refine append_one tChR (E := chE) (x := c) hkx chLen h.ch rfl (chOne _) (by simp [maxLen]; omega) (by omega) ?_
  intro oa' c' H1 how hf hfr _
  have nek := hfr.ne h.bx h.chk
  refine hK oa' c' H1 (hf.bx h.bx h.chk) ⟨(hf.sub h.sub h.cho).wr h.off, h.off, Bx.new _ _ _ _, h.p.wr rfl rfl rfl rfl rfl rfl rfl rfl rfl rfl rfl, ?_, hfr.off h.sub h.cho, nek⟩
  exact how.mono fun z o hz hb => by rw [Vx.upd_ne _ _ (nek z hz)]; exact hb
/-- What is said behind nothing. -/
theorem appOut {L : List Msg} {a : Option Addr} {m c : Nat} {H : PHeap} (h : SaidL L (.slice a m c) H) (hL : L.length ≤ 1000) {K : Value → PHeap → Prop} (hK : ∀ oa' n' c' H', SaidL L (.slice oa' n' c') H' → Sub H H' → K (.slice oa' n' c') H') :
    EvV Tryz.prog (Builtin.append_ #[28, 28] 28 #[.slice none 0 0, .slice a m c]) H K := by
  obtain ⟨b, n, q, l, e, h1, h2, h3⟩ := h
  simp only [Value.slice.injEq] at e
  obtain ⟨rfl, rfl, rfl⟩ := e
  have hl := h1.len
  have h3l : l.length = L.length := by rw [← h3, List.length_map]
  refine append_rd Rnd.tM (E := mE) (l := []) Rnd.mLen (Owns.nil H _ 13) h1 Rnd.mOne (by simp [maxLen]; omega) (by omega) ?_
  intro oa' c' H' how hf _
  have hs : Sub H H' := hf.sub (Sub.refl _) (Off.none _)
  exact hK _ _ _ _ ⟨_, _, _, l, rfl, by simpa using how.rd (E := mE) (sz := 13) (by omega) Rnd.mLen, fun z hz => (h2 z hz).mono hs, h3⟩ hs
theorem readsL {H : PHeap} {k : Nat} {t : TypeId} {l : List Value} (h : Bx H k t l) (off : Nat) (l2 : List Value) (e : (l.drop off).take l2.length = l2) : Reads H (fldA (at0 k) off) l2 := h.readsAt off fun j v hv => by
  rw [← e] at hv
  have hlt : j < l2.length := by
    have := (List.getElem?_eq_some_iff.1 hv).1
    rw [List.length_take] at this; omega
  rw [List.getElem?_take_of_lt hlt, List.getElem?_drop] at hv
  exact hv
theorem mend_okR {H0 F H : PHeap} {k : Nat} {t : TS} {x : RX} (hF : Sub H0 F) (h : RcB F H k t x) (hp : t.p.ok = true) (hx : x.s = t.A) (hS : SlA F t.A x.ax) (hm : Sml t.A) :
    Triple Tryz.prog 75 #[.pointer (at0 k)] H (OutR H0 k t.mend) := by
  have hdef : t.mend = if t.A.value.pr && (helpL t.p t.A.holders t.c.tg).isSome && !decide (t.c.tg ∈ t.A.holders) then t.round 5 (mHelp t.c.nm t.A.value t.c.tg (bareS ((helpL t.p t.A.holders t.c.tg).getD []))) (restL ((helpL t.p t.A.holders t.c.tg).getD [] ++ [t.c.tg]) []) [t.c.tg] else (t.over, []) := rfl
  have ev : x.s.value = t.A.value := by rw [hx]
  have hhl := hS.h.len
  have hh := hm.holders
  refine rcMend.vc (at0 k) H _ ⟨obP k, obP k, obK k 11, x.s.value.pr, x.s.value.at_, x.s.value.ep, x.s.value.sz, readsL h.bx 29 _ rfl, H, Sub.refl _, obP k, obP k, _, _, _, _, _, _, planRR h, obP k, obP k, obK k 11, _, _, _, h.bx.fld (i := 33) rfl, obP k, obP k, obK k 7, _, h.bx.fld (i := 9) rfl,
    (Triple.ro (R := fun v F' => ∃ b m q ok, v = .tuple #[.slice b m q, .bool ok] ∧ ok = (helpL t.p t.A.holders t.c.tg).isSome ∧ RdL F' iE 1 b m ((helpL t.p t.A.holders t.c.tg).getD []) ∧ m ≤ q)
      ((refHelpers_ok (i := t.c.tg) hp hS.h (by omega)).mono fun v F' ⟨b, m, q, ok, g1, g2, g3, g4, g5⟩ => ⟨⟨b, m, q, ok, g1, g2, g3, g4⟩, g5⟩) h.sub).mono ?_⟩
  rintro _ H18 ⟨F1, ⟨b, m, q, ok, rfl, hok, rw1, hmq⟩, st⟩
  have h18 := h.stay st
  have hF1 := hF.trans st.fsub
  have endR : ∀ {G : PHeap} {F2 : PHeap}, Sub H0 F2 → RcB F2 G k t x → t.mend = (t.over, []) → Triple Tryz.prog 40 #[.pointer (at0 k)] G fun v H' => ∃ a n c, v = .slice a n c ∧ OutR H0 k t.mend (.slice a n c) H' := fun {G} {F2} hs hG e => by
    refine (over_outR hs hG).mono ?_
    rintro _ H' ⟨rfl, ho⟩
    exact ⟨_, _, _, rfl, by rw [e]; exact ho⟩
  refine ⟨b, m, q, ok, rfl, H18, Sub.refl _, fun e1 => ⟨fun e2 => ⟨obP k, obP k, obK k 11, _, _, _, h18.bx.fld (i := 33) rfl, obP k, obP k, obK k 7, _, h18.bx.fld (i := 9) rfl, (has_ok (x := t.c.tg) (hS.h.mono (st.fsub.trans st.sub)) (by omega)).mono ?_⟩, fun e2 => ?_⟩, fun e1 => ?_⟩
  · rintro _ H29 ⟨rfl, hH29⟩
    rw [hH29]
    have e1' : t.A.value.pr = true := by rw [← ev]; simpa using e1
    have e2' : ok = true := by simpa using e2
    have hsome : (helpL t.p t.A.holders t.c.tg).isSome = true := by rw [← hok]; exact e2'
    refine ⟨_, rfl, fun e3 => ?_, fun e3 => ?_⟩
    · have hin : decide (t.c.tg ∈ t.A.holders) = true := e3
      exact endR hF1 h18 (by rw [hdef, if_neg (by rw [hin]; simp)])
    · have hin : decide (t.c.tg ∈ t.A.holders) = false := e3
      rw [hdef, if_pos (by rw [e1', hsome, hin]; rfl)]
      have hwl := rw1.len
      have hwl2 := help_len hp t.A.holders t.c.tg
      refine ⟨H18, Sub.refl _, obP k, obP k, obK k 7, _, h18.bx.fld (i := 9) rfl, fun k38 hk38 => ⟨Sub.upd _ hk38, ?_⟩⟩
      have s38 := Sub.upd (.cells #[] 3 (0, 0)) hk38
      refine append_rd Rnd.tI (E := iE) (l := []) Rnd.iLen (Owns.empty H18 k38 _ 1) ((rw1.mono st.sub).mono s38) Rnd.iOne (by simp [maxLen]; omega) (by omega) ?_
      intro a41 c43 H40 how40 hf40 hfr40
      have s40 : Sub H18 H40 := hf40.sub s38 (off_at0 hk38)
      have off40 : Off H18 a41 := hfr40.off s38 (off_at0 hk38)
      refine ⟨a41, 0 + m, c43, rfl, s40, fun k44 hk44 => ?_⟩
      refine append_one Rnd.tI (E := iE) (x := t.c.tg) hk44 Rnd.iLen how40 rfl (Rnd.iOne _) (by simp [maxLen]; omega) (by omega) ?_
      intro a47 c49 H46 how46 hf46 hfr46 _
      have s46 : Sub H18 H46 := hf46.sub s40 off40
      have off46 : Off H18 a47 := hfr46.off s40 off40
      have st2 := Stay.grow h18.sub s46
      have h46 := h18.stay st2
      have r46 : RdL (grow F1 H18 H46) iE 1 a47 (0 + m + 1) ((helpL t.p t.A.holders t.c.tg).getD [] ++ [t.c.tg]) := by
        have := rd_grow (F := F1) (how46.rd (E := iE) (sz := 1) (by omega) Rnd.iLen) off46
        simpa using this
      have hF2 := hF1.trans st2.fsub
      have rw2 := rw1.mono st2.fsub
      generalize grow F1 H18 H46 = F2 at st2 h46 r46 hF2 rw2
      refine ⟨a47, 0 + m + 1, c49, rfl, (Triple.ro (R := fun v F' => ∃ b k q, v = .slice b k q ∧ RdL F' iE 1 b k (restL ((helpL t.p t.A.holders t.c.tg).getD [] ++ [t.c.tg]) []) ∧ k ≤ q)
        ((refRest_ok (w := []) (m := 0) (d := 0) r46 (RdL.nil _ _ _) (by omega) (by omega)).mono fun v F' ⟨b, m, q, g1, g2, g3, g4⟩ => ⟨⟨b, m, q, g1, g2, g3⟩, g4⟩) h46.sub).mono ?_⟩
      rintro _ H51 ⟨F3, ⟨b52, n53, c54, rfl, r52, _⟩, st3⟩
      have h51 := h46.stay st3
      have hl52 := r52.len
      have hids : (restL ((helpL t.p t.A.holders t.c.tg).getD [] ++ [t.c.tg]) []).length ≤ 256 := restL_le hp fun j hj => by
        rcases List.mem_append.1 hj with hj | hj
        · exact help_ids j hj
        · simp at hj; rw [hj]; exact help_is hsome
      let z : List Value := [vI 0, vI 0, vI 0, vI 0, .string ⟨#[]⟩, vI 0, vI 0, vI 0, vI 0, vI 0, .slice none 0 0, .slice none 0 0, .slice none 0 0]
      let M : List Value := [vI 10, vI 0, vI 0, vI 0, .string t.c.nm, vI x.s.value.at_, vI x.s.value.ep, vI t.c.tg, vI x.s.value.sz, vI 0, .slice b m q, .slice none 0 0, .slice none 0 0]
      refine ⟨b52, n53, c54, rfl, H51, Sub.refl _, obP k, obP k, obK k 7, _, h51.bx.fld (i := 8) rfl, obP k, obP k, obK k 7, _, h51.bx.fld (i := 9) rfl, fun k58 hk58 => ?_⟩
      have s58 := Sub.upd (.cells z.toArray 52 (0, 0)) hk58
      have b58 : Bx (H51.upd k58 (.cells z.toArray 52 (0, 0))) k58 52 z := Bx.new _ _ _ _
      have b59 : Bx ((H51.upd k58 (.cells z.toArray 52 (0, 0))).upd k58 (.cells M.toArray 52 (0, 0))) k58 52 M := Bx.new _ _ _ _
      have s59 := s58.wr (o := .cells M.toArray 52 (0, 0)) hk58
      refine ⟨s58, _, b58.writes M rfl, ?_⟩
      generalize (H51.upd k58 (.cells z.toArray 52 (0, 0))).upd k58 (.cells M.toArray 52 (0, 0)) = H59 at b59 s59 ⊢
      have h59 := h51.mono s59
      refine ⟨H59, Sub.refl _, _, _, _, _, _, _, _, _, _, _, _, _, _, _, _, _, _, _, _, b59.reads, obP k, obP k, obK k 7, _, h59.bx.fld (i := 9) rfl, fun k81 hk81 => ⟨Sub.upd _ hk81, ?_⟩⟩
      have st4 := Stay.allocR (o := .cells #[vI t.c.tg] 3 (0, 0)) h59.sub hk81
      have h81 := h59.stay st4
      have rwF := (rw2.mono st3.fsub).mono st4.fsub
      have rT := Bx.rd (E := iE) (l := [t.c.tg]) Rnd.iLen (Bx.new F3 k81 3 [vI t.c.tg])
      have es : strip (10, 0, 0, 0, t.c.nm, x.s.value.at_, x.s.value.ep, t.c.tg, x.s.value.sz, 0, ⟨b, m, q, (helpL t.p t.A.holders t.c.tg).getD []⟩, ⟨none, 0, 0, []⟩, ⟨none, 0, 0, []⟩) = mHelp t.c.nm t.A.value t.c.tg (bareS ((helpL t.p t.A.holders t.c.tg).getD [])) := by
        rw [ev]; rfl
      refine (round_okR (at' := 5) (m := (10, 0, 0, 0, t.c.nm, x.s.value.at_, x.s.value.ep, t.c.tg, x.s.value.sz, 0, ⟨b, m, q, (helpL t.p t.A.holders t.c.tg).getD []⟩, ⟨none, 0, 0, []⟩, ⟨none, 0, 0, []⟩)) (hF2.trans (st3.fsub.trans st4.fsub)) h81 (.inr (.inr (.inl rfl))) (r52.mono st4.fsub) rT (by omega) ⟨rwF, RdL.nil _ _ _, RdL.nil _ _ _, by show m ≤ 100000; omega, by show (0 : Nat) ≤ 100000; omega, by show (0 : Nat) ≤ 100000; omega⟩).mono ?_
      intro v H' ho
      rw [es] at ho
      exact outR_slice ho fun _ h => h
  · have e2' : ok = false := by simpa using e2
    exact endR hF1 h18 (by rw [hdef, if_neg (by rw [← hok, e2']; simp)])
  · have e1' : t.A.value.pr = false := by rw [← ev]; simpa using e1
    exact endR hF1 h18 (by rw [hdef, if_neg (by rw [e1']; simp)])
def namedTail (a1 : Option Addr) (s5 : ByteArray) (H9 : PHeap) (Q : Value → PHeap → Prop) : Prop :=
  Ob (a1 ≠ none) ∧ Ob (a1 ≠ none) ∧ Ob (fldA a1 11 ≠ none) ∧ Ob (fldA (fldA a1 11) 18 ≠ none) ∧ ∃ b130, Reads H9 (fldA (fldA (fldA a1 11) 18) 0) [.bool b130] ∧
  (b130 = true → ∃ H131, Vx.Sub H131 H9 ∧ Ob (a1 ≠ none) ∧ Ob (a1 ≠ none) ∧ ∃ n132 n133 n134 n135 n136 n137, Reads H131 (fldA a1 0)
  [.int .i64 n132, .int .i64 n133, .int .i64 n134, .int .i64 n135, .int .i64 n136, .int .i64 n137] ∧ Ob (a1 ≠ none) ∧ Ob (a1 ≠ none) ∧ Ob (fldA a1 11 ≠ none) ∧
  ∃ a138 k139 k140, Reads H131 (fldA (fldA a1 11) 22) [.slice a138 k139 k140] ∧ Triple Tryz.prog 110
  #[.agg #[.int .i64 n132, .int .i64 n133, .int .i64 n134, .int .i64 n135, .int .i64 n136, .int .i64 n137], .slice a138 k139 k140] H9 fun v141 H142 =>
  ∃ a143 k144 k145, v141 = .slice a143 k144 k145 ∧ ∃ (R146 : Rl) (M147 : Mu), R146 [.int .i64 0] H142 ∧ ∀ (n148 : Int) (H149 : PHeap),
  R146 [.int .i64 n148] H149 → (decide (n148 < (↑k144 : Int)) = true → ∃ H150, Vx.Sub H150 H149 ∧ Ob (a1 ≠ none) ∧ Ob (a1 ≠ none) ∧
  ∃ n151 n152 n153 n154 n155 n156, Reads H150 (fldA a1 0) [.int .i64 n151, .int .i64 n152, .int .i64 n153, .int .i64 n154, .int .i64 n155, .int .i64 n156] ∧
  Ob (a1 ≠ none) ∧ Ob (a1 ≠ none) ∧ Ob (fldA a1 11 ≠ none) ∧ ∃ a157 k158 k159, Reads H150 (fldA (fldA a1 11) 22) [.slice a157 k158 k159] ∧
  Ob (a143 ≠ none ∧ 0 ≤ n148 ∧ n148 < (↑k144 : Int)) ∧ ∃ n160, Reads H150 (elemA a143 n148 1) [.int .i64 n160] ∧ Triple Tryz.prog 111
  #[.agg #[.int .i64 n151, .int .i64 n152, .int .i64 n153, .int .i64 n154, .int .i64 n155, .int .i64 n156], .slice a157 k158 k159, .int .i64 n160]
  H149 fun v161 H162 => ∃ a163 k164 k165 b166, v161 = .tuple #[.slice a163 k164 k165, .bool b166] ∧ (b166 = true → ∃ H167, Vx.Sub H167 H162 ∧ Ob (a1 ≠ none) ∧
  Ob (a1 ≠ none) ∧ ∃ a168 k169 k170, Reads H167 (fldA a1 58) [.slice a168 k169 k170] ∧ Ob (a143 ≠ none ∧ 0 ≤ n148 ∧ n148 < (↑k144 : Int)) ∧ ∃ n171,
  Reads H167 (elemA a143 n148 1) [.int .i64 n171] ∧ ∀ (k172 : Nat), H162 k172 = none → Vx.Sub H167 (H162.upd k172 (Obj.cells #[.int .i64 2,
  .string s5, .int .i64 n171] 25)) ∧ EvV Tryz.prog
  (Builtin.append_ #[55, 55] 55 #[.slice a168 k169 k170, .slice (at0 k172) 1 1]) (H162.upd k172
  (Obj.cells #[.int .i64 2, .string s5, .int .i64 n171] 25)) fun v173 H174 => ∃ a175 k176 k177, v173 = .slice a175 k176 k177 ∧
  Ob (a1 ≠ none) ∧ Ob (a1 ≠ none) ∧ ∃ H178, Writes H174 H178 (fldA a1 58) [.slice a175 k176 k177] ∧ R146 [.int .i64 (IntKind.i64.wrap (n148 + 1))] H178 ∧ Less
  (M147 [.int .i64 (IntKind.i64.wrap (n148 + 1))] H178) (M147 [.int .i64 n148] H149)) ∧ (b166 = false → R146 [.int .i64 (IntKind.i64.wrap (n148 + 1))] H162 ∧ Less
  (M147 [.int .i64 (IntKind.i64.wrap (n148 + 1))] H162) (M147 [.int .i64 n148] H149))) ∧ (decide (n148 < (↑k144 : Int)) = false →
  Triple Tryz.prog 78 #[.pointer a1] H149 fun v179 H180 =>
  ∃ a181 k182 k183, v179 = .slice a181 k182 k183 ∧ Q (.slice a181 k182 k183) H180)) ∧ (b130 = false → ∃ H184, Vx.Sub H184 H9 ∧ Ob (a1 ≠ none) ∧ Ob (a1 ≠ none) ∧
  ∃ n185 n186 n187 n188 n189 n190, Reads H184 (fldA a1 0) [.int .i64 n185, .int .i64 n186, .int .i64 n187, .int .i64 n188, .int .i64 n189, .int .i64 n190] ∧
  Ob (a1 ≠ none) ∧ Ob (a1 ≠ none) ∧ Ob (fldA a1 11 ≠ none) ∧ ∃ a191 k192 k193, Reads H184 (fldA (fldA a1 11) 24) [.slice a191 k192 k193] ∧
  Triple Tryz.prog 112 #[.agg #[.int .i64 n185, .int .i64 n186, .int .i64 n187, .int .i64 n188, .int .i64 n189, .int .i64 n190],
  .slice a191 k192 k193] H9 fun v194 H195 => ∃ b196, v194 = .bool b196 ∧ (b196 = true → Ob (a1 ≠ none) ∧ Ob (a1 ≠ none) ∧ ∃ a197 k198 k199,
  Reads H195 (fldA a1 58) [.slice a197 k198 k199] ∧ ∀ (k200 : Nat), H195 k200 = none → EvV Tryz.prog
  (Builtin.append_ #[55, 55] 55 #[.slice a197 k198 k199, .slice (at0 k200) 1 1]) (H195.upd k200
  (Obj.cells #[.int .i64 3, .string s5, .int .i64 0] 25)) fun v201 H202 => ∃ a203 k204 k205, v201 = .slice a203 k204 k205 ∧
  Ob (a1 ≠ none) ∧ Ob (a1 ≠ none) ∧ ∃ H206, Writes H202 H206 (fldA a1 58) [.slice a203 k204 k205] ∧
  Triple Tryz.prog 78 #[.pointer a1] H206 fun v207 H208 => ∃ a209 k210 k211,
  v207 = .slice a209 k210 k211 ∧ Q (.slice a209 k210 k211) H208) ∧ (b196 = false →
  Triple Tryz.prog 78 #[.pointer a1] H195 fun v212 H213 =>
  ∃ a214 k215 k216, v212 = .slice a214 k215 k216 ∧ Q (.slice a214 k215 k216) H213))
def chF (p : Plan) (nm : ByteArray) (h : List Int) (L : List Int) : List Ch := (L.filter fun i => (helpL p h i).isSome).map fun i => ⟨2, nm, i⟩
theorem chF_snoc (p : Plan) (nm : ByteArray) (h : List Int) {L : List Int} {i : Nat} {z : Int} (e : L[i]? = some z) : chF p nm h (L.take (i + 1)) = chF p nm h (L.take i) ++ if (helpL p h z).isSome then [⟨2, nm, z⟩] else [] := by
  unfold chF
  rw [filter_snocI _ e, List.map_append]
  cases (helpL p h z).isSome <;> rfl
theorem chF_len (p : Plan) (nm : ByteArray) (h L : List Int) : (chF p nm h L).length ≤ L.length := by
  unfold chF
  rw [List.length_map]
  exact List.length_filter_le _ _
theorem tail_okR {H0 F H : PHeap} {k : Nat} {t : TS} {x : RX} {nm : ByteArray} {Q : Value → PHeap → Prop} (hF : Sub H0 F) (h : RcB F H k t x) (hp : t.p.ok = true) (hx : x.s = t.A) (hS : SlA F t.A x.ax) (hm : Sml t.A) (hb : t.chores.length ≤ 80000000)
    (hs : t.sus.length ≤ 256) (hQ : ∀ v H', OutR H0 k ({ t with chores := t.chores ++ newC t.p nm t.A } : TS).name v H' → Q v H') : namedTail (at0 k) nm H Q := by
  have ev : x.s.value = t.A.value := by rw [hx]
  have hhl := hS.h.len
  have hsl := hS.s.len
  have hh := hm.holders
  have hsd := hm.said
  have fin : ∀ {F1 H1 : PHeap} {t1 : TS} {x1 : RX}, Sub H0 F1 → RcB F1 H1 k t1 x1 → t1 = { t with chores := t.chores ++ newC t.p nm t.A } → Triple Tryz.prog 78 #[.pointer (at0 k)] H1 fun v H' => ∃ a n c, v = .slice a n c ∧ Q (.slice a n c) H' := fun {F1} {H1} {t1} {x1} h0 h1 e => by
    subst e
    exact (name_okR h0 h1 hp hs).mono fun v H' ho => outR_slice ho fun v h => hQ v _ h
  refine ⟨obP k, obP k, obK k 11, obK k 29, _, h.bx.fld (i := 29) rfl, fun e => ?_, fun e => ?_⟩
  · have e' : t.A.value.pr = true := by rw [← ev]; exact e
    have hnew : newC t.p nm t.A = chF t.p nm t.A.holders (targL t.p t.A.holders) := by unfold newC; rw [if_pos e']; rfl
    refine ⟨H, Sub.refl _, obP k, obP k, _, _, _, _, _, _, planRR h, obP k, obP k, obK k 11, _, _, _, h.bx.fld (i := 33) rfl,
      (Triple.ro (R := fun v F' => ∃ b n c, v = .slice b n c ∧ RdL F' iE 1 b n (targL t.p t.A.holders))
        ((refTargets_ok hp hS.h (by omega)).mono fun v F' ⟨b, n, c, g1, g2, g3, _⟩ => ⟨⟨b, n, c, g1, g2.rd (E := iE) (sz := 1) (by omega) Rnd.iLen⟩, g3⟩) h.sub).mono ?_⟩
    rintro _ H1 ⟨F1, ⟨b, n, c, rfl, hT⟩, st⟩
    have hTl := hT.len
    have hT2 := targ_len t.p t.A.holders
    have hT3 := ids_len' hp
    refine ⟨b, n, c, rfl, fun s H' => match s with | [.int _ i] => 0 ≤ i ∧ i ≤ n ∧ ∃ F' ch, Sub F1 F' ∧ RcB F' H' k { t with chores := t.chores ++ chF t.p nm t.A.holders ((targL t.p t.A.holders).take i.toNat) } { x with ch := ch } | _ => False, fun s _ => match s with | [.int _ i] => (n - i).toNat | _ => 0,
      ⟨by omega, by omega, F1, x.ch, Sub.refl _, by
        have e0 : t.chores ++ chF t.p nm t.A.holders ((targL t.p t.A.holders).take (0 : Int).toNat) = t.chores := by simp [chF]
        rw [e0]; exact h.stay st⟩, ?_⟩
    rintro i H2 ⟨i0, i1, F2, ch, hF2, h2⟩
    obtain ⟨i, rfl⟩ : ∃ j : Nat, i = j := ⟨i.toNat, by omega⟩
    rw [Int.toNat_natCast] at h2
    have hF02 := hF.trans (st.fsub.trans hF2)
    have hS2 := hS.mono (st.fsub.trans hF2)
    refine ⟨fun hi => ?_, fun hi => ?_⟩
    · have hi' : i < n := by simpa using hi
      have hTH := (hT.mono hF2).mono h2.sub
      obtain ⟨z, hz, hzr⟩ := hTH.ex (i := (i : Int)) (by omega) (by omega)
      rw [Int.toNat_natCast] at hz
      have hsn := chF_snoc t.p nm t.A.holders hz
      refine ⟨H2, Sub.refl _, obP k, obP k, _, _, _, _, _, _, planRR h2, obP k, obP k, obK k 11, _, _, _, h2.bx.fld (i := 33) rfl, hTH.ob (by omega) (by omega), z, hzr,
        (Triple.ro (R := fun v F' => ∃ b m q ok, v = .tuple #[.slice b m q, .bool ok] ∧ ok = (helpL t.p t.A.holders z).isSome)
          ((refHelpers_ok (i := z) hp hS2.h (by omega)).mono fun v F' ⟨b, m, q, ok, g1, g2, g3, g4, g5⟩ => ⟨⟨b, m, q, ok, g1, g2⟩, g5⟩) h2.sub).mono ?_⟩
      rintro _ H3 ⟨F3, ⟨b3, m3, q3, ok, rfl, hok⟩, st3⟩
      have h3 := h2.stay st3
      have hTH3 := (hT.mono (hF2.trans st3.fsub)).mono h3.sub
      rw [Rnd.wrapS (by omega) (by omega)]
      have hlen : (t.chores ++ chF t.p nm t.A.holders ((targL t.p t.A.holders).take i)).length ≤ 90000000 := by
        have h1 := chF_len t.p nm t.A.holders ((targL t.p t.A.holders).take i)
        have h2 := List.length_take_le i (targL t.p t.A.holders)
        rw [List.length_append]
        rw [List.length_take] at h1
        omega
      refine ⟨b3, m3, q3, ok, rfl, fun e3 => ⟨H3, Sub.refl _, obP k, obP k, _, _, _, h3.bx.fld (i := 58) rfl, hTH3.ob (by omega) (by omega), z, hTH3.at (by omega) (by rw [Int.toNat_natCast]; exact hz), fun kx hkx => ⟨Sub.upd _ hkx, chApp h3 hlen ⟨2, nm, z⟩ hkx ?_⟩⟩, fun e3 => ⟨⟨by omega, by omega, F3, ch, hF2.trans st3.fsub, ?_⟩, ⟨by simp only; omega⟩⟩⟩
      · intro oa' c' H4 b4 h4
        refine ⟨_, _, _, rfl, obP k, obP k, _, b4.put (i := 58) (x := .slice oa' (ch.n + 1) c') (by show 58 < 59; decide), ⟨by omega, by omega, F3, ⟨oa', ch.n + 1, c'⟩, hF2.trans st3.fsub, ?_⟩, ⟨by simp only; omega⟩⟩
        rw [show ((i : Int) + 1).toNat = i + 1 by omega, hsn, ← hok, e3, if_pos rfl, ← List.append_assoc]
        exact h4
      · rw [show ((i : Int) + 1).toNat = i + 1 by omega, hsn, ← hok, e3, if_neg (by decide), List.append_nil]
        exact h3
    · have hi' : ¬ i < n := by simpa using hi
      rw [List.take_of_length_le (by omega)] at h2
      exact fin hF02 h2 (by rw [hnew])
  · have e' : t.A.value.pr = false := by rw [← ev]; exact e
    have hnew : newC t.p nm t.A = if goneL t.p t.A.said then [⟨3, nm, 0⟩] else [] := by unfold newC; rw [if_neg (by rw [e']; decide)]
    refine ⟨H, Sub.refl _, obP k, obP k, _, _, _, _, _, _, planRR h, obP k, obP k, obK k 11, _, _, _, h.bx.fld (i := 35) rfl, (rGone_ok (hS.s.mono h.sub) (by omega)).mono ?_⟩
    rintro _ H1 ⟨rfl, hH⟩
    rw [hH]
    refine ⟨_, rfl, fun e3 => ⟨obP k, obP k, _, _, _, h.bx.fld (i := 58) rfl, fun kx hkx => chApp h (by omega) ⟨3, nm, 0⟩ hkx ?_⟩, fun e3 => fin hF h (by rw [hnew, e3, if_neg (by decide), List.append_nil])⟩
    intro oa' c' H4 b4 h4
    refine ⟨_, _, _, rfl, obP k, obP k, _, b4.put (i := 58) (x := .slice oa' (x.ch.n + 1) c') (by show 58 < 59; decide), ?_⟩
    exact fin hF h4 (by rw [hnew, e3, if_pos rfl])
theorem named_okR {H0 F H : PHeap} {k : Nat} {t : TS} {x : RX} (hF : Sub H0 F) (h : RcB F H k t x) (hp : t.p.ok = true) (hn : t.names ≠ []) (hx : x.s = t.A) (hS : SlA F t.A x.ax) (hm : Sml t.A) (hb : t.chores.length ≤ 80000000) (hs : t.sus.length ≤ 256) :
    Triple Tryz.prog 74 #[.pointer (at0 k)] H (OutR H0 k t.named) := by
  have hnl := h.p.nm.len
  have hsl := h.p.su.len
  have hnc := h.p.nmc
  have hal := hS.a.len
  have hac := hm.acks
  have ef : x.s.fixed = t.A.fixed := by rw [hx]
  have hn0 : 0 < x.nm.n := by
    rw [← hnl]; exact List.length_pos_iff.2 hn
  obtain ⟨s, hs0, hsr⟩ := (h.p.nm.mono h.sub).ex (i := 0) (by omega) (by omega)
  have hhead : t.names.headD noS = s := by
    cases hnm : t.names with
    | nil => exact absurd hnm hn
    | cons z zs => rw [hnm] at hs0; simpa using hs0
  have hdrop := h.p.nm.drop (i := 1) (by omega) hnc
  rw [List.drop_one] at hdrop
  have hnamed : t.named = ({ t with names := t.names.tail, sus := susF t, chores := t.chores ++ newC t.p s t.A } : TS).name := by
    unfold TS.named TS.behind
    rw [hhead]; rfl
  rw [hnamed]
  refine rcNamed.vc (at0 k) H _ ⟨obP k, obP k, _, _, _, h.bx.fld (i := 56) rfl, (h.p.nm.mono h.sub).ob (by omega) (by omega), s, hsr, obP k, obP k, _, _, _, h.bx.fld (i := 56) rfl, ⟨by omega, by omega, by omega⟩, obP k, obP k, _, h.bx.put (i := 56) (x := .slice (slA x.nm.a 1 x.nm.c 1) (x.nm.n - 1) (x.nm.c - 1)) (by show 56 < 59; decide), ?_⟩
  have h9 := h.put (t' := { t with names := t.names.tail }) (x' := { x with nm := ⟨slA x.nm.a 1 x.nm.c 1, x.nm.n - 1, x.nm.c - 1⟩ }) ⟨h.p.pn, h.p.pnc, h.p.ps, hdrop, by show x.nm.n - 1 ≤ x.nm.c - 1; omega, h.p.su, h.p.an, h.p.aw⟩ rfl rfl
  have e9 : H.upd k (.cells ((cellsR t x).set 56 (.slice (slA x.nm.a 1 x.nm.c 1) (x.nm.n - 1) (x.nm.c - 1))).toArray tTr (0, 0)) = H.upd k (.cells (cellsR { t with names := t.names.tail } { x with nm := ⟨slA x.nm.a 1 x.nm.c 1, x.nm.n - 1, x.nm.c - 1⟩ }).toArray tTr (0, 0)) := rfl
  rw [e9]
  generalize H.upd k (.cells (cellsR { t with names := t.names.tail } { x with nm := ⟨slA x.nm.a 1 x.nm.c 1, x.nm.n - 1, x.nm.c - 1⟩ }).toArray tTr (0, 0)) = H9 at h9 ⊢
  refine ⟨obP k, obP k, obK k 11, _, h9.bx.fld (i := 28) rfl, fun e => ?_, fun e => ?_⟩
  · have e' : t.A.fixed = true := by rw [← ef]; exact e
    have hsF : susF t = t.sus.filter (fun i => decide (i ∈ t.A.acks)) := by unfold susF; rw [if_pos e']
    refine ⟨fun s H' => match s with | [.slice b m q, .int _ i] => 0 ≤ i ∧ i ≤ x.su.n ∧ Sub H9 H' ∧ OwnL H' 3 iE 1 b m q ((t.sus.take i.toNat).filter (fun i => decide (i ∈ t.A.acks))) ∧ Off H9 b | _ => False, fun s _ => match s with | [_, .int _ i] => (x.su.n - i).toNat | _ => 0, ⟨by omega, by omega, Sub.refl _, Owns.nil _ _ 1, Off.none _⟩, ?_⟩
    rintro b m q i H17 ⟨i0, i1, s17, ho, hoff⟩
    obtain ⟨i, rfl⟩ : ∃ j : Nat, i = j := ⟨i.toNat, by omega⟩
    rw [Int.toNat_natCast] at ho
    have h17 := h9.mono s17
    refine ⟨obP k, obP k, _, _, _, h17.bx.fld (i := 57) rfl, fun hi => ?_, fun hi => ?_⟩
    · have hi' : i < x.su.n := by simpa using hi
      have hsu : RdL H17 iE 1 x.su.a x.su.n t.sus := h17.p.su.mono h17.sub
      obtain ⟨z, hz, hzr⟩ := hsu.ex (i := (i : Int)) (by omega) (by omega)
      rw [Int.toNat_natCast] at hz
      have hz' : t.sus[i]? = some z := hz
      have hsn := filter_snocI (fun i => decide (i ∈ t.A.acks)) hz'
      have hml := (ho.rd (E := iE) (sz := 1) (by omega) Rnd.iLen).len
      have hfl := List.length_filter_le (fun i => decide (i ∈ t.A.acks)) (t.sus.take i)
      rw [List.length_take] at hfl
      rw [Rnd.wrapS (by omega) (by omega)]
      refine ⟨H17, Sub.refl _, obP k, obP k, obK k 11, _, _, _, h17.bx.fld (i := 34) rfl, obP k, obP k, _, _, _, h17.bx.fld (i := 57) rfl, hsu.ob (by omega) (by omega), z, hzr, (has_ok (x := z) (hS.a.mono h17.sub) (by omega)).mono ?_⟩
      rintro _ H30 ⟨rfl, hH⟩
      rw [hH]
      refine ⟨_, rfl, fun e3 => ⟨obP k, obP k, _, _, _, h17.bx.fld (i := 57) rfl, hsu.ob (by omega) (by omega), z, hzr, fun kx hkx => ?_⟩, fun e3 => ⟨⟨by omega, by omega, s17, ?_, hoff⟩, ⟨by simp only; omega⟩⟩⟩
      · refine append_one Rnd.tI (E := iE) (x := z) hkx Rnd.iLen ho rfl (Rnd.iOne _) (by simp [maxLen]; omega) (by omega) ?_
        intro b' q' H' how hf hfr _
        refine ⟨b', m + 1, q', rfl, ⟨by omega, by omega, hf.sub s17 hoff, ?_, hfr.off s17 hoff⟩, ⟨by simp only; omega⟩⟩
        rw [show ((i : Int) + 1).toNat = i + 1 by omega, hsn, if_pos e3]
        exact how
      · rw [show ((i : Int) + 1).toNat = i + 1 by omega, hsn, if_neg (by rw [e3]; decide), List.append_nil]
        exact ho
    · have hi' : ¬ i < x.su.n := by simpa using hi
      rw [List.take_of_length_le (by omega)] at ho
      have st := Stay.grow h9.sub s17
      have h17' := h9.stay st
      have rF : RdL (grow F H9 H17) iE 1 b m (t.sus.filter (fun i => decide (i ∈ t.A.acks))) := rd_grow (ho.rd (E := iE) (sz := 1) (by omega) Rnd.iLen) hoff
      have hfl := List.length_filter_le (fun i => decide (i ∈ t.A.acks)) t.sus
      have hFs := hF.trans st.fsub
      have hSs := hS.mono st.fsub
      generalize grow F H9 H17 = F2 at st h17' rF hFs hSs
      refine ⟨obP k, obP k, _, h17'.bx.put (i := 57) (x := .slice b m q) (by show 57 < 59; decide), ?_⟩
      have h42 := h17'.put (t' := { t with names := t.names.tail, sus := t.sus.filter (fun i => decide (i ∈ t.A.acks)) }) (x' := { x with nm := ⟨slA x.nm.a 1 x.nm.c 1, x.nm.n - 1, x.nm.c - 1⟩, su := ⟨b, m, q⟩ }) ⟨h17'.p.pn, h17'.p.pnc, h17'.p.ps, h17'.p.nm, h17'.p.nmc, rF, h17'.p.an, h17'.p.aw⟩ rfl rfl
      have tl := tail_okR (nm := s) hFs h42 hp hx hSs hm hb (by show (t.sus.filter (fun i => decide (i ∈ t.A.acks))).length ≤ 256; omega) (Q := OutR H0 k ({ t with names := t.names.tail, sus := susF t, chores := t.chores ++ newC t.p s t.A } : TS).name) fun v H' ho => by
        rw [hsF]; exact ho
      exact tl
  · have e' : t.A.fixed = false := by rw [← ef]; exact e
    have hsF : susF t = t.sus := by unfold susF; rw [if_neg (by rw [e']; decide)]
    have tl := tail_okR (nm := s) hF h9 hp hx hS hm hb hs (Q := OutR H0 k ({ t with names := t.names.tail, sus := susF t, chores := t.chores ++ newC t.p s t.A } : TS).name) fun v H' ho => by
      rw [hsF]; exact ho
    exact tl
end Go.Cho
namespace Go.Cho
open Go.Vx Go.Vc Go.Proofs Go.Pln Go.Stl Go.Agr
open Go.Hp (rest_ok restL restL_spec restL_len Asc asc_ext has_ok refRest_ok)
open Go.Rnd (takesG insG froms againG OkM AscG RdR RV)
open Go.Txt (sE)
open Go.Txt (Rising)
open Go.Page (limL namesL susL susStep cntL sumN names_ noS stateL rising_namesL mem_namesL)
/-- All of a plan's places. -/
theorem all_okR {F H : PHeap} {p : Plan} (hp : p.ok = true) (hs : Sub F H) : Triple Tryz.prog 28 #[p.v] H fun v H' => ∃ F', (∃ b n c, v = .slice b n c ∧ RdL F' iE 1 b n (ids p)) ∧ Stay F H F' H' :=
  Triple.ro (R := fun v F' => ∃ b n c, v = .slice b n c ∧ RdL F' iE 1 b n (ids p)) ((refPAll_ok hp).mono fun v F' ⟨b, n, c, g1, g2, g3, _⟩ => ⟨⟨b, n, c, g1, g2.rd (E := iE) (sz := 1) (by omega) Rnd.iLen⟩, g3⟩) hs
theorem agreed_okR {H0 F H : PHeap} {k : Nat} {t : TS} {x : RX} {r : Agr.St × List Msg} {b : Option Addr} {n c : Nat} {ar : RV} {ax : AV} {b0 : Nat} (hF : Sub H0 F) (h : RcB F H k t x) (hi : Iv b0 t) (hb : b0 ≤ 80000) (hg : t.agrees = true)
    (hA : RefA F (.agg (cellsV r.1 (stt r.1) ar ax).toArray) r.1) (hSl : SlA F r.1 ax) (hl : RdL F mE 13 b n r.2) (hno : r.1.over = true → b = none ∧ n = 0 ∧ c = 0) (hr : SmlR r) (hp' : r.1.p = t.p) :
    Triple Tryz.prog 37 #[.pointer (at0 k), .agg (cellsV r.1 (stt r.1) ar ax).toArray, .slice b n c] H (OutR H0 k (t.goes r)) := by
  have hat := agrees_at hg
  have hp := hi.pok (by omega)
  have hlen := (goes_ok hi hg hr hp').len
  have hal := hSl.a.len
  have hdef : t.goes r = if r.1.over then (if r.1.ok then TS.next { t with A := r.1 } else (TS.over { t with A := r.1 }, [])) else ({ t with A := r.1 }, r.2) := rfl
  refine rcAgreed.vc (at0 k) r.1.p.n r.1.p.t r.1.p.l r.1.p.w r.1.p.s r.1.p.r r.1.ballot r.1.name r.1.force r.1.live (stt r.1) r.1.mark ar.a ar.an ar.ac ar.w ar.wn ar.wc ar.g ar.gn ar.gc r.1.tries r.1.ok r.1.fixed r.1.value.pr r.1.value.at_ r.1.value.ep r.1.value.sz ax.h ax.hn ax.hc ax.a ax.an ax.ac ax.s ax.sn ax.sc b n c H _ ⟨obP k, obP k, _, wA h.bx r.1 (stt r.1) ar ax, ?_⟩
  have h42 := h.put (t' := { t with A := r.1 }) (x' := { x with s := r.1, st := stt r.1, ar := ar, ax := ax }) (h.p.wr rfl rfl rfl rfl rfl rfl rfl rfl rfl rfl rfl) rfl rfl
  have e42 : H.upd k (.cells (cellsR t { x with s := r.1, st := stt r.1, ar := ar, ax := ax }).toArray tTr (0, 0)) = H.upd k (.cells (cellsR { t with A := r.1 } { x with s := r.1, st := stt r.1, ar := ar, ax := ax }).toArray tTr (0, 0)) := rfl
  rw [e42]
  generalize H.upd k (.cells (cellsR { t with A := r.1 } { x with s := r.1, st := stt r.1, ar := ar, ax := ax }).toArray tTr (0, 0)) = H42 at h42 ⊢
  refine ⟨fun e => ?_, fun e => ?_⟩
  · have ho : r.1.over = false := by
      cases ho : r.1.over with
      | false => rfl
      | true => rw [stt_over ho] at e; simp at e
    rw [hdef, if_neg (by rw [ho]; decide)]
    refine ⟨⟨b, n, c, r.2, rfl, hl.mono h42.sub, fun m hm => (hr.bare m hm).ok _, strip_bares hr.bare⟩, F, _, hF, h42, ⟨fun _ => hA, fun e => ?_⟩⟩
    have : t.agrees = false := e
    rw [hg] at this; cases this
  have ho : r.1.over = true := by
    cases ho : r.1.over with
    | true => rfl
    | false =>
      exfalso
      have : stt r.1 = 2 := by simpa using e
      unfold stt at this
      rw [ho] at this
      cases hf : r.1.fixed <;> rw [hf] at this <;> simp at this
  obtain ⟨rfl, rfl, rfl⟩ := hno ho
  rw [if_pos ho] at hdef
  have endR : t.goes r = (TS.over { t with A := r.1 }, []) → Triple Tryz.prog 40 #[.pointer (at0 k)] H42 fun v H' => ∃ a n c, v = .slice a n c ∧ OutR H0 k (t.goes r) (.slice none 0 0) H' := fun e => by
    refine (over_outR hF h42).mono ?_
    rintro _ H' ⟨rfl, hq⟩
    exact ⟨_, _, _, rfl, by rw [e]; exact hq⟩
  have app : ∀ {w : Value} {H' : PHeap}, OutR H0 k (t.goes r) w H' → ∃ a n c, w = .slice a n c ∧ EvV Tryz.prog (Builtin.append_ #[28, 28] 28 #[.slice none 0 0, .slice a n c]) H' fun v H2 => ∃ a n c, v = .slice a n c ∧ OutR H0 k (t.goes r) (.slice a n c) H2 := fun {w} {H'} hq => by
    obtain ⟨⟨a, n, c, l, rfl, q⟩, hT⟩ := hq
    exact ⟨a, n, c, rfl, appOut ⟨a, n, c, l, rfl, q⟩ hlen fun oa' n' c' H2 hs hsub => ⟨_, _, _, rfl, hs, hT.mono hsub⟩⟩
  have e6of : (t.at_ == 2) = false → (t.at_ == 4) = false → t.at_ = 6 := fun e3 e4 => by
    have h3' : ¬ t.at_ = 2 := by simpa using e3
    have h4' : ¬ t.at_ = 4 := by simpa using e4
    omega
  have hp6 : t.at_ = 6 → TS.next { t with A := r.1 } = if r.1.value.pr || decide ((r.1.acks.length : Int) < t.p.n) then (TS.over { t with A := r.1 }, []) else TS.round { t with A := r.1 } 7 (mPurge t.c.nm) (ids t.p) (ids t.p) := fun e6 => by
    unfold TS.next
    rw [if_neg (show ¬ t.at_ = 1 by omega), if_neg (show ¬ t.at_ = 2 by omega), if_neg (show ¬ t.at_ = 4 by omega), if_pos (show t.at_ = 6 from e6)]
    rfl
  refine ⟨fun e2 => ?_, fun e2 => ⟨obP k, obP k, _, h42.bx.fld (i := 10) rfl, fun e3 => ?_, fun e3 => ⟨obP k, obP k, _, h42.bx.fld (i := 10) rfl, fun e4 => ?_, fun e4 => ⟨H42, Sub.refl _, fun e5 => ⟨obP k, obP k, obK k 0, _, h42.bx.fld (i := 0) rfl, fun e6 => ?_, fun e6 => ?_⟩, fun e5 => ?_⟩⟩⟩⟩
  · have hk : r.1.ok = false := by simpa using e2
    exact endR (by rw [hdef, if_neg (by rw [hk]; decide)])
  all_goals have hk : r.1.ok = true := by simpa using e2
  all_goals rw [if_pos hk] at hdef
  · have e3' : t.at_ = 2 := by simpa using e3
    have hnx : TS.next { t with A := r.1 } = TS.named { t with A := r.1 } := by
      unfold TS.next
      rw [if_neg (show ¬ t.at_ = 1 by omega), if_pos (show t.at_ = 2 from e3')]
    have hf := hi.few
    have hs256 := asc_ids hp hi.core.sua hi.core.sui
    refine (named_okR (t := { t with A := r.1 }) hF h42 hp (hi.at2 e3') rfl hSl hr.s (by show t.chores.length ≤ 80000000; omega) hs256).mono fun v H' hq => app ?_
    rw [hdef, hnx]; exact hq
  · have e4' : t.at_ = 4 := by simpa using e4
    have hnx : TS.next { t with A := r.1 } = TS.mend { t with A := r.1 } := by
      unfold TS.next
      rw [if_neg (show ¬ t.at_ = 1 by omega), if_neg (show ¬ t.at_ = 2 by omega), if_pos (show t.at_ = 4 from e4')]
    refine (mend_okR (t := { t with A := r.1 }) hF h42 hp rfl hSl hr.s).mono fun v H' hq => app ?_
    rw [hdef, hnx]; exact hq
  all_goals have e6' := e6of e3 e4
  all_goals rw [hp6 e6'] at hdef
  · exact endR (by rw [hdef, hal, e6, Bool.or_true, if_pos rfl])
  · have e5' : r.1.value.pr = false := e5
    rw [hal, e6, e5', if_neg (by decide)] at hdef
    have hil := ids_len' hp
    refine ⟨H42, Sub.refl _, obP k, obP k, obK k 7, _, h42.bx.fld (i := 8) rfl, obP k, obP k, _, _, _, _, _, _, planRR h42, obP k, obP k, _, _, _, _, _, _, planRR h42, (all_okR (p := t.p) hp h42.sub).mono ?_⟩
    rintro _ H92 ⟨F1, ⟨b1, n1, c1, rfl, r1⟩, st1⟩
    have h92 := h42.stay st1
    refine ⟨b1, n1, c1, rfl, st1.hsub h42.sub, (all_okR (p := t.p) hp h92.sub).mono ?_⟩
    rintro _ H97 ⟨F2, ⟨b2, n2, c2, rfl, r2⟩, st2⟩
    have h97 := h92.stay st2
    refine ⟨b2, n2, c2, rfl, (st1.hsub h42.sub).trans (st2.hsub h92.sub), (round_okR (at' := 7) (m := (8, 0, 0, 0, t.c.nm, 0, 0, 0, 0, 0, no3)) (hF.trans (st1.fsub.trans st2.fsub)) h97 (.inr (.inr (.inr rfl))) (r1.mono st2.fsub) r2 (by rw [← r1.len]; exact hil) (okM0 _ _ _ _ _ _ _ _ _ _ _)).mono fun v H' hq => app ?_⟩
    rw [hdef]; exact hq
  · have e5' : r.1.value.pr = true := by simpa using e5
    exact endR (by rw [hdef, e5', Bool.true_or, if_pos rfl])
structure NearT (t : TS) : Prop where
  ri : Rising t.pn
  ps : ∀ x ∈ t.pn, x.size ≤ 40
  gs : ∀ m ∈ t.G, ∀ x ∈ (names_ m).l, x.size ≤ 40
theorem core_G {t : TS} (hc : Core t) (hp : t.p.ok = true) (hn : t.p.n ≤ 100) : t.G.length ≤ 100 := by
  have pok := Plan.ok_iff.1 hp
  have := asc_len (froms t.G) 0 t.p.n (by have := pok.n1; omega) hc.asc fun z hz => by
    obtain ⟨m, hm, rfl⟩ := List.mem_map.1 hz
    exact ids_mem (hc.win _ (hc.gin m hm))
  rw [List.length_map] at this
  omega
abbrev pgL (a : Pl) (s : ByteArray) (b : Pl) : List Value := [a.v, .string s, b.v]
theorem wP {H : PHeap} {k : Nat} {t : TS} {x : RX} (h : Bx H k tTr (cellsR t x)) (a : Pl) (s : ByteArray) (b : Pl) :
    Writes H (H.upd k (.cells (cellsR { t with after := s } { x with pn := a, ps := b }).toArray tTr (0, 0))) (fldA (at0 k) 53) (pgL a s b) :=
  (h.writes (cellsR { t with after := s } { x with pn := a, ps := b }) rfl).part (A := (cellsR t x).take 53) (l2 := pgL a s b) (B := (cellsR t x).drop 56) (old := pgL x.pn t.after x.ps) h.reads rfl
theorem judge_okR {H0 F H : PHeap} {k : Nat} {t : TS} {x : RX} {b : Nat} (hF : Sub H0 F) (h : RcB F H k t x) (hA : RcA F t x) (hi : Iv b t) (hb : b ≤ 80000) (hn : t.p.n ≤ 100) (hN : NearT t) (hg : t.agrees = false) (h0 : t.at_ ≠ 0) :
    Triple Tryz.prog 38 #[.pointer (at0 k)] H fun v H' => ∃ a n c, v = .tuple #[.slice a n c, .bool t.told] ∧ (t.told = true → OutR H0 k t.next (.slice a n c) H') ∧ (t.told = false → a = none ∧ n = 0 ∧ c = 0 ∧ H' = H) := by
  have hp := hi.pok h0
  obtain ⟨_, asks, hR, hB, hokA, hGok⟩ := hA.rd hg h0
  have hG := core_G hi.core hp hn
  have hwl := hi.core.wl
  have gl := hR.got.len
  have wl := hR.wait.len
  have allEq : (t.wait.all fun i => decide (i ∈ froms t.G)) = allG t.wait t.G := rfl
  have hans : t.next = t.answered → t.told = allG t.wait t.G → ∀ {bb : Bool}, bb = allG t.wait t.G → (bb = true → Triple Tryz.prog 40 #[.pointer (at0 k)] H fun v H' => ∃ a n c, v = .slice a n c ∧ ∃ a' n' c', Value.tuple #[.slice a n c, .bool true] = .tuple #[.slice a' n' c', .bool t.told] ∧ (t.told = true → OutR H0 k t.next (.slice a' n' c') H') ∧ (t.told = false → a' = none ∧ n' = 0 ∧ c' = 0 ∧ H' = H)) ∧ (bb = false → ∃ a' n' c', Value.tuple #[.slice none 0 0, .bool false] = .tuple #[.slice a' n' c', .bool t.told] ∧ (t.told = true → OutR H0 k t.next (.slice a' n' c') H) ∧ (t.told = false → a' = none ∧ n' = 0 ∧ c' = 0 ∧ H = H)) := fun e1 e2 {bb} e3 => by
    refine ⟨fun e => (over_outR hF h).mono ?_, fun e => ?_⟩
    · rintro _ H' ⟨rfl, hq⟩
      have e4 : t.told = true := by rw [e2, ← e3, e]
      refine ⟨_, _, _, rfl, none, 0, 0, by rw [e4], fun _ => ?_, fun e' => by rw [e4] at e'; cases e'⟩
      rw [e1]
      unfold TS.answered
      rw [if_pos (by rw [← e2, e4])]
      exact hq
    · have e4 : t.told = false := by rw [e2, ← e3, e]
      exact ⟨none, 0, 0, by rw [e4], (fun e' => by rw [e4] at e'; cases e'), fun _ => ⟨rfl, rfl, rfl, rfl⟩⟩
  refine rcJudge.vc (at0 k) H _ ⟨obP k, obP k, _, _, _, _, _, _, _, _, _, _, readsL h.bx 36 (rL x.rr x.rt) rfl, (Rnd.refAll_ok (tries := x.rt) (hR.mono h.sub) (by omega) (by omega)).mono ?_⟩
  rintro _ H13 ⟨rfl, hH⟩
  rw [hH]
  refine ⟨_, rfl, H, Sub.refl _, obP k, obP k, _, h.bx.fld (i := 10) rfl, fun e => ?_, fun e => ?_⟩
  · have e1 : t.at_ = 1 := by simpa using e
    have en : t.next = t.listed := by unfold TS.next; rw [if_pos e1]
    have et : t.told = (enoughB t || allG t.wait t.G) := by unfold TS.told; rw [e1]; simp
    have ed : t.listed = if enoughB t then (if (limL (listL t.G)).1 then TS.name { t.turned with names := t.turned.pn, sus := t.turned.ps } else t.turned.round 1 (mNames t.turned.after) (ids t.p) (ids t.p)) else t.answered := rfl
    obtain ⟨i1, i2, i3⟩ := hi.at1' e1
    have hgot := hR.got.mono h.sub
    refine ⟨obP k, obP k, _, _, _, _, _, _, planRR h, obP k, obP k, obK k 36, _, _, _, h.bx.fld (i := 38) rfl, (Page.refEnough_ok (p := t.p) hgot (fun m hm => (((hGok m hm).mono h.sub)).p) (by omega)).mono ?_⟩
    rintro _ H27 ⟨rfl, hH2⟩
    rw [hH2]
    refine ⟨_, rfl, fun e2 => ?_, fun e2 => ?_⟩
    · have e2' : enoughB t = true := e2
      have hps := asc_ids hp hi.core.psa hi.core.psi
      have et' : t.told = true := by rw [et, e2', Bool.true_or]
      have hsF : sumN (listL t.G) ≤ sumN t.G := sumN_filter _ _
      rw [et', en, ed, if_pos e2']
      have rt := Page.refTurn_ok (c := x.rr.gc) (cs := x.ps.c) (after := t.after) h.p.pn h.p.pnc h.p.ps hR.got (fun m hm => (hGok m hm).p) (by omega) hN.gs hN.ps hN.ri (show t.pn.length + sumN (listL t.G) ≤ 90000 by omega) (by omega)
      refine ⟨H, Sub.refl _, obP k, obP k, _, _, _, _, _, _, _, readsL h.bx 53 (pgL x.pn t.after x.ps) rfl, obP k, obP k, obK k 36, _, _, _, h.bx.fld (i := 38) rfl,
        (Triple.ro (R := fun v F' => ∃ b m k b2 m2 k2 w, v = .tuple #[.agg #[.slice b m k, .string t.turned.after, .slice b2 m2 k2], .bool w] ∧ w = (limL (listL t.G)).1 ∧ RdL F' sE 1 b m t.turned.pn ∧ m ≤ k ∧ RdL F' iE 1 b2 m2 t.turned.ps)
          (rt.mono fun v F' ⟨b, m, k, b2, m2, k2, w, F2, g1, g2, g3, g4, g5, g6, g7⟩ => ⟨⟨b, m, k, b2, m2, k2, w, g1, g2, g5.mono g4, g6, g7.mono g4⟩, g3.trans g4⟩) h.sub).mono ?_⟩
      rintro _ H41 ⟨F1, ⟨b, m, q, b2, m2, q2, w, rfl, hw, rpn, hmq, rps⟩, st⟩
      have h41 := h.stay st
      have hs41 := st.hsub h.sub
      have hF1 := hF.trans st.fsub
      let zP : List Value := [.slice none 0 0, .string ⟨#[]⟩, .slice none 0 0]
      let P : List Value := pgL ⟨b, m, q⟩ t.turned.after ⟨b2, m2, q2⟩
      refine ⟨b, m, q, _, b2, m2, q2, w, rfl, hs41, fun k50 hk50 => ?_⟩
      have s50 := Sub.upd (.cells zP.toArray 54 (0, 0)) hk50
      have b50 : Bx (H41.upd k50 (.cells zP.toArray 54 (0, 0))) k50 54 zP := Bx.new _ _ _ _
      have b51 : Bx ((H41.upd k50 (.cells zP.toArray 54 (0, 0))).upd k50 (.cells P.toArray 54 (0, 0))) k50 54 P := Bx.new _ _ _ _
      have s51 := s50.wr (o := .cells P.toArray 54 (0, 0)) hk50
      have hkk : k50 ≠ k := fun e => by
        have := h41.bx
        unfold Bx at this
        rw [← e, hk50] at this; cases this
      refine ⟨hs41.trans s50, _, b50.writes P rfl, ?_⟩
      generalize (H41.upd k50 (.cells zP.toArray 54 (0, 0))).upd k50 (.cells P.toArray 54 (0, 0)) = H51 at b51 s51 ⊢
      have h51 := h41.mono s51
      refine ⟨_, _, _, _, _, _, _, b51.reads, obP k, obP k, _, wP h51.bx ⟨b, m, q⟩ t.turned.after ⟨b2, m2, q2⟩, ?_⟩
      have h59 := h51.put (t' := t.turned) (x' := { x with pn := ⟨b, m, q⟩, ps := ⟨b2, m2, q2⟩ }) ⟨rpn, hmq, rps, h51.p.nm, h51.p.nmc, h51.p.su, h51.p.an, h51.p.aw⟩ rfl rfl
      have b59 := b51.upd_ne (.cells (cellsR t.turned { x with pn := ⟨b, m, q⟩, ps := ⟨b2, m2, q2⟩ }).toArray tTr (0, 0)) hkk
      have e59 : H51.upd k (.cells (cellsR { t with after := t.turned.after } { x with pn := ⟨b, m, q⟩, ps := ⟨b2, m2, q2⟩ }).toArray tTr (0, 0)) = H51.upd k (.cells (cellsR t.turned { x with pn := ⟨b, m, q⟩, ps := ⟨b2, m2, q2⟩ }).toArray tTr (0, 0)) := rfl
      rw [e59]
      generalize H51.upd k (.cells (cellsR t.turned { x with pn := ⟨b, m, q⟩, ps := ⟨b2, m2, q2⟩ }).toArray tTr (0, 0)) = H59 at h59 b59 ⊢
      refine ⟨fun e3 => ?_, fun e3 => ?_⟩
      · have e3' : (limL (listL t.G)).1 = false := by rw [← hw]; simpa using e3
        have hil := ids_len' hp
        refine ⟨H59, Sub.refl _, obP k50, _, b59.fld (i := 1) rfl, obP k, obP k, _, _, _, _, _, _, planRR h59, obP k, obP k, _, _, _, _, _, _, planRR h59, (all_okR (p := t.p) hp h59.sub).mono ?_⟩
        rintro _ H75 ⟨F2, ⟨b3, n3, c3, rfl, r3⟩, st2⟩
        have h75 := h59.stay st2
        refine ⟨b3, n3, c3, rfl, st2.hsub h59.sub, (all_okR (p := t.p) hp h75.sub).mono ?_⟩
        rintro _ H80 ⟨F3, ⟨b4, n4, c4, rfl, r4⟩, st3⟩
        have h80 := h75.stay st3
        refine ⟨b4, n4, c4, rfl, (st2.hsub h59.sub).trans (st3.hsub h75.sub), (round_okR (at' := 1) (m := (6, 0, 0, 0, t.turned.after, 0, 0, 0, 0, 0, no3)) (hF1.trans (st2.fsub.trans st3.fsub)) h80 (.inl rfl) (r3.mono st3.fsub) r4 (by rw [← r3.len]; exact hil) (okM0 _ _ _ _ _ _ _ _ _ _ _)).mono fun v H' hq => ?_⟩
        obtain ⟨⟨a, n, c, l, rfl, g⟩, hT⟩ := hq
        refine ⟨a, n, c, rfl, a, n, c, rfl, fun _ => ?_, fun e => by cases e⟩
        rw [if_neg (by rw [e3']; decide)]
        exact ⟨⟨a, n, c, l, rfl, g⟩, hT⟩
      · have e3' : (limL (listL t.G)).1 = true := by rw [← hw]; simpa using e3
        refine ⟨obP k50, _, _, _, b59.fld (i := 0) rfl, obP k, obP k, _, h59.bx.put (i := 56) (x := .slice b m q) (by show 56 < 59; decide), obP k50, ?_⟩
        have h92 := h59.put (t' := { t.turned with names := t.turned.pn }) (x' := { x with pn := ⟨b, m, q⟩, ps := ⟨b2, m2, q2⟩, nm := ⟨b, m, q⟩ }) ⟨h59.p.pn, h59.p.pnc, h59.p.ps, rpn, hmq, h59.p.su, h59.p.an, h59.p.aw⟩ rfl rfl
        have b92 := b59.upd_ne (.cells (cellsR { t.turned with names := t.turned.pn } { x with pn := ⟨b, m, q⟩, ps := ⟨b2, m2, q2⟩, nm := ⟨b, m, q⟩ }).toArray tTr (0, 0)) hkk
        have e92 : H59.upd k (.cells ((cellsR t.turned { x with pn := ⟨b, m, q⟩, ps := ⟨b2, m2, q2⟩ }).set 56 (.slice b m q)).toArray tTr (0, 0)) = H59.upd k (.cells (cellsR { t.turned with names := t.turned.pn } { x with pn := ⟨b, m, q⟩, ps := ⟨b2, m2, q2⟩, nm := ⟨b, m, q⟩ }).toArray tTr (0, 0)) := rfl
        rw [e92]
        generalize H59.upd k (.cells (cellsR { t.turned with names := t.turned.pn } { x with pn := ⟨b, m, q⟩, ps := ⟨b2, m2, q2⟩, nm := ⟨b, m, q⟩ }).toArray tTr (0, 0)) = H92 at h92 b92 ⊢
        refine ⟨_, _, _, b92.fld (i := 2) rfl, obP k, obP k, _, h92.bx.put (i := 57) (x := .slice b2 m2 q2) (by show 57 < 59; decide), ?_⟩
        have h96 := h92.put (t' := { t.turned with names := t.turned.pn, sus := t.turned.ps }) (x' := { x with pn := ⟨b, m, q⟩, ps := ⟨b2, m2, q2⟩, nm := ⟨b, m, q⟩, su := ⟨b2, m2, q2⟩ }) ⟨h92.p.pn, h92.p.pnc, h92.p.ps, h92.p.nm, h92.p.nmc, rps, h92.p.an, h92.p.aw⟩ rfl rfl
        have tc := turned_core hi.core
        have hps2 := asc_ids (p := t.p) hp tc.psa tc.psi
        refine (name_okR (t := { t.turned with names := t.turned.pn, sus := t.turned.ps }) hF1 h96 hp hps2).mono fun v H' hq => ?_
        obtain ⟨⟨a, n, c, l, rfl, g⟩, hT⟩ := hq
        refine ⟨a, n, c, rfl, a, n, c, rfl, fun _ => ?_, fun e => by cases e⟩
        rw [if_pos e3']
        exact ⟨⟨a, n, c, l, rfl, g⟩, hT⟩
    · have e2' : enoughB t = false := e2
      exact hans (by rw [en, ed, if_neg (by rw [e2']; decide)]) (by rw [et, e2', Bool.false_or]) rfl
  · have e1 : ¬ t.at_ = 1 := by simpa using e
    have hc := odd_at hi hg h0
    have en : t.next = t.answered := by unfold TS.next; rw [if_neg e1, if_neg (by omega), if_neg (by omega), if_neg (by omega)]
    have et : t.told = allG t.wait t.G := by
      unfold TS.told
      rw [show (t.at_ == 1) = false by simpa using e1]; rfl
    exact hans en et rfl
def takeTail (a1 : Option Addr) (n2 n3 n4 n5 : Int) (s6 : ByteArray) (n7 n8 n9 n10 n11 : Int) (a12 : Option Addr) (k13 k14 : Nat) (a15 : Option Addr) (k16 k17 : Nat) (a18 : Option Addr) (k19 k20 : Nat) (H23 : PHeap) (Q : Value → PHeap → Prop) : Prop :=
  Triple Tryz.prog 48 #[.pointer a1, .agg #[.int .i64 n2, .int .i64 n3, .int .i64 n4, .int .i64 n5, .string s6, .int .i64 n7,
  .int .i64 n8, .int .i64 n9, .int .i64 n10, .int .i64 n11, .slice a12 k13 k14, .slice a15 k16 k17, .slice a18 k19 k20]] H23 fun v465 H466 => ∃ b467,
  v465 = .bool b467 ∧ ((!b467) = true → Q (.slice none 0 0) H466) ∧ ((!b467) = false → ∃ H468, Vx.Sub H468 H466 ∧ Ob (a1 ≠ none) ∧ Ob (a1 ≠ none) ∧
  ∃ a469 k470 k471 a472 k473 k474 a475 k476 k477 n478,
  Reads H468 (fldA a1 36) [.slice a469 k470 k471, .slice a472 k473 k474, .slice a475 k476 k477, .int .i64 n478] ∧
  Triple Tryz.prog 49 #[.agg #[.slice a469 k470 k471, .slice a472 k473 k474, .slice a475 k476 k477, .int .i64 n478],
  .agg #[.int .i64 n2, .int .i64 n3, .int .i64 n4, .int .i64 n5, .string s6, .int .i64 n7, .int .i64 n8, .int .i64 n9, .int .i64 n10, .int .i64 n11,
  .slice a12 k13 k14, .slice a15 k16 k17, .slice a18 k19 k20]] H466 fun v479 H480 => ∃ a481 k482 k483 a484 k485 k486 a487 k488 k489 n490 b491, v479 =
  .tuple #[.agg #[.slice a481 k482 k483, .slice a484 k485 k486, .slice a487 k488 k489, .int .i64 n490], .bool b491] ∧ Vx.Sub H468 H480 ∧ ∀ (k492 : Nat),
  H480 k492 = none → Vx.Sub H468 (H480.upd k492 (Obj.cells #[.slice none 0 0, .slice none 0 0, .slice none 0 0, .int .i64 0] 44)) ∧
  ∃ H493, Writes (H480.upd k492 (Obj.cells #[.slice none 0 0, .slice none 0 0, .slice none 0 0, .int .i64 0] 44)) H493 (at0 k492)
  [.slice a481 k482 k483, .slice a484 k485 k486, .slice a487 k488 k489, .int .i64 n490] ∧ ∃ a494 k495 k496 a497 k498 k499 a500 k501 k502 n503,
  Reads H493 (at0 k492) [.slice a494 k495 k496, .slice a497 k498 k499, .slice a500 k501 k502, .int .i64 n503] ∧ Ob (a1 ≠ none) ∧ Ob (a1 ≠ none) ∧ ∃ H504,
  Writes H493 H504 (fldA a1 36) [.slice a494 k495 k496, .slice a497 k498 k499, .slice a500 k501 k502, .int .i64 n503] ∧ ((!b491) = false →
  ∃ a505 k506 k507 a508 k509 k510 a511 k512 k513 n514, Reads H504 (at0 k492) [.slice a505 k506 k507, .slice a508 k509 k510, .slice a511 k512 k513,
  .int .i64 n514] ∧ Triple Tryz.prog 50 #[.agg #[.slice a505 k506 k507, .slice a508 k509 k510, .slice a511 k512 k513,
  .int .i64 n514]] H504 fun v515 H516 => ∃ b517, v515 = .bool b517 ∧ ((!b517) = true → Q (.slice none 0 0) H516) ∧ ((!b517) = false →
  Triple Tryz.prog 38 #[.pointer a1] H516 fun v518 H519 => ∃ a520 k521 k522 b523,
  v518 = .tuple #[.slice a520 k521 k522, .bool b523] ∧ Q (.slice a520 k521 k522) H519)) ∧ ((!b491) = !false → Q (.slice none 0 0) H504))
theorem near_got {t : TS} {m : Msg} (h : NearT t) (hm : ∀ x ∈ (names_ m).l, x.size ≤ 40) : NearT (t.got m) := ⟨h.ri, h.ps, fun z hz => by
  rcases Rnd.mem_ins.1 hz with hz | hz
  · exact h.gs z hz
  · rw [hz]; exact hm⟩
theorem tailT_okR {H0 F H : PHeap} {k : Nat} {t : TS} {x : RX} {b : Nat} {m : Msg} (hF : Sub H0 F) (h : RcB F H k t x) (hA : RcA F t x) (hi : Iv b t) (hb : b + 100 ≤ 80000) (hn : t.p.n ≤ 100) (hN : NearT t) (hg : t.agrees = false) (h0 : t.at_ ≠ 0) (hm : OkC F m) (hmn : ∀ x ∈ (names_ m).l, x.size ≤ 40) (hre : t.refuses m = false) :
    takeTail (at0 k) m.1 m.2.1 m.2.2.1 m.2.2.2.1 m.2.2.2.2.1 m.2.2.2.2.2.1 m.2.2.2.2.2.2.1 m.2.2.2.2.2.2.2.1 m.2.2.2.2.2.2.2.2.1 m.2.2.2.2.2.2.2.2.2.1 m.2.2.2.2.2.2.2.2.2.2.1.oa m.2.2.2.2.2.2.2.2.2.2.1.n m.2.2.2.2.2.2.2.2.2.2.1.c m.2.2.2.2.2.2.2.2.2.2.2.1.oa m.2.2.2.2.2.2.2.2.2.2.2.1.n m.2.2.2.2.2.2.2.2.2.2.2.1.c m.2.2.2.2.2.2.2.2.2.2.2.2.oa m.2.2.2.2.2.2.2.2.2.2.2.2.n m.2.2.2.2.2.2.2.2.2.2.2.2.c H (OutR H0 k (t.take m)) := by
  have hp := hi.pok h0
  obtain ⟨hrt, asks, hR, hB, hokA, hGok⟩ := hA.rd hg h0
  have hG := core_G hi.core hp hn
  have hwl := hi.core.wl
  have gl := hR.got.len
  have wl := hR.wait.len
  have hdef : t.take m = if t.takes m && takesG t.wait t.G m then (if allG t.wait (insG t.G m) then (t.got m).next else (t.got m, [])) else (t, []) := by
    unfold TS.take
    rw [if_neg h0, if_neg (by rw [hg]; decide), if_neg (by rw [hre]; decide)]
  refine (takes_okR (m := m) h (odd_at hi hg h0)).mono ?_
  rintro _ H2 ⟨rfl, hH⟩
  rw [hH]
  refine ⟨_, rfl, fun e => ?_, fun e => ⟨H, Sub.refl _, obP k, obP k, _, _, _, _, _, _, _, _, _, _, readsL h.bx 36 (rL x.rr x.rt) rfl,
    (Triple.ro (R := fun v F' => ∃ r' : RV, v = .tuple #[r'.v x.rt, .bool (takesG t.wait t.G m)] ∧ RdR F' r' asks t.wait (if takesG t.wait t.G m then insG t.G m else t.G) ∧ r'.gn ≤ 101)
      ((Rnd.refTake_ok (tries := x.rt) (m := m) hR (by omega) (by omega)).mono fun v F' ⟨r', g1, g2, g3, g4, g5, g6⟩ => ⟨⟨r', g1, g2, by rw [g3]; split <;> omega⟩, g6⟩) h.sub).mono ?_⟩⟩
  · have e' : t.takes m = false := by simpa using e
    rw [hdef, e', Bool.false_and, if_neg (by decide)]
    exact ⟨SaidL.nil _, F, x, hF, h, hA⟩
  have e' : t.takes m = true := by simpa using e
  rw [e', Bool.true_and] at hdef
  rintro _ H3 ⟨F1, ⟨r', rfl, hR', hgn⟩, st⟩
  have h3 := h.stay st
  have hs3 := st.hsub h.sub
  let zR : List Value := [.slice none 0 0, .slice none 0 0, .slice none 0 0, vI 0]
  refine ⟨r'.a, r'.an, r'.ac, r'.w, r'.wn, r'.wc, r'.g, r'.gn, r'.gc, x.rt, _, rfl, hs3, fun kx hkx => ?_⟩
  have s4 := Sub.upd (.cells zR.toArray 44 (0, 0)) hkx
  have b4 : Bx (H3.upd kx (.cells zR.toArray 44 (0, 0))) kx 44 zR := Bx.new _ _ _ _
  have b5 : Bx ((H3.upd kx (.cells zR.toArray 44 (0, 0))).upd kx (.cells (rL r' x.rt).toArray 44 (0, 0))) kx 44 (rL r' x.rt) := Bx.new _ _ _ _
  have s5 := s4.wr (o := .cells (rL r' x.rt).toArray 44 (0, 0)) hkx
  have hkk : kx ≠ k := fun e => by
    have := h3.bx
    unfold Bx at this
    rw [← e, hkx] at this; cases this
  refine ⟨hs3.trans s4, _, b4.writes (rL r' x.rt) rfl, ?_⟩
  generalize (H3.upd kx (.cells zR.toArray 44 (0, 0))).upd kx (.cells (rL r' x.rt).toArray 44 (0, 0)) = H5 at b5 s5 ⊢
  have h5 := h3.mono s5
  refine ⟨_, _, _, _, _, _, _, _, _, _, b5.reads, obP k, obP k, _, wR h5.bx r' x.rt, ?_⟩
  have h6 := h5.put (t' := t) (x' := { x with rr := r', rt := x.rt }) (h5.p.wr rfl rfl rfl rfl rfl rfl rfl rfl rfl rfl rfl) rfl rfl
  have b6 := b5.upd_ne (.cells (cellsR t { x with rr := r', rt := x.rt }).toArray tTr (0, 0)) hkk
  generalize H5.upd k (.cells (cellsR t { x with rr := r', rt := x.rt }).toArray tTr (0, 0)) = H6 at h6 b6 ⊢
  have hF1 := hF.trans st.fsub
  have hokA1 : ∀ z ∈ asks, OkM F1 z := fun z hz => (hokA z hz).mono st.fsub
  refine ⟨fun e2 => ?_, fun e2 => ?_⟩
  · have e2' : takesG t.wait t.G m = true := by simpa using e2
    rw [e2', if_pos rfl] at hR'
    rw [e2', if_pos rfl] at hdef
    have hT : RcB F1 H6 k (t.got m) { x with rr := r', rt := x.rt } := ⟨h6.sub, h6.off, h6.bx, h6.p.wr rfl rfl rfl rfl rfl rfl rfl rfl rfl rfl rfl, h6.ch, h6.cho, h6.chk⟩
    have hAT : RcA F1 (t.got m) { x with rr := r', rt := x.rt } := ⟨fun e => (by
      have : t.agrees = true := e
      rw [hg] at this; cases this), fun _ _ => ⟨hrt, asks, hR', hB, hokA1, fun z hz => by
        rcases Rnd.mem_ins.1 hz with hz | hz
        · exact (hGok z hz).mono st.fsub
        · rw [hz]; exact hm.mono st.fsub⟩⟩
    refine ⟨_, _, _, _, _, _, _, _, _, _, b6.reads, (Rnd.refAll_ok (tries := x.rt) (hR'.mono h6.sub) (by omega) (by rw [← hR'.wait.len]; omega)).mono ?_⟩
    rintro _ H7 ⟨rfl, hH7⟩
    rw [hH7]
    refine ⟨_, rfl, fun e3 => ?_, fun e3 => ?_⟩
    · have e3' : allG t.wait (insG t.G m) = false := by
        have : (!allG t.wait (insG t.G m)) = true := e3
        simpa using this
      rw [hdef, if_neg (by rw [e3']; decide)]
      exact ⟨SaidL.nil _, F1, _, hF1, hT, hAT⟩
    · have e3' : allG t.wait (insG t.G m) = true := by
        have : (!allG t.wait (insG t.G m)) = false := e3
        simpa using this
      rw [hdef, if_pos e3']
      have hiG := got_iv' hi e2'
      have hml : (names_ m).l.length ≤ 100 := by rw [hm.ok.names.len]; exact hm.nm
      refine (judge_okR hF1 hT hAT hiG (by omega) hn (near_got hN hmn) hg h0).mono ?_
      rintro _ H8 ⟨a, n, c, rfl, g1, _⟩
      have et : (t.got m).told = true := by
        unfold TS.told
        have : allG (t.got m).wait (t.got m).G = true := e3'
        rw [this, Bool.or_true]
      exact ⟨a, n, c, _, rfl, g1 et⟩
  · have e2' : takesG t.wait t.G m = false := by simpa using e2
    rw [e2', if_neg (by decide)] at hR'
    rw [hdef, e2', if_neg (by decide)]
    exact ⟨SaidL.nil _, F1, _, hF1, h6, ⟨fun e => (by rw [hg] at e; cases e), fun _ _ => ⟨hrt, asks, hR', hB, hokA1, fun z hz => (hGok z hz).mono st.fsub⟩⟩⟩
end Go.Cho
namespace Go.Cho
open Go.Vx Go.Vc Go.Proofs Go.Pln Go.Stl Go.Agr
open Go.Hp (rest_ok restL restL_spec restL_len Asc asc_ext has_ok refRest_ok)
open Go.Rnd (takesG insG froms againG OkM AscG RdR RV)
open Go.Txt (sE)
open Go.Txt (Rising)
open Go.Page (limL namesL susL susStep cntL sumN names_ noS stateL rising_namesL mem_namesL)
/-- An agreement as a value, its cells told. -/
abbrev RAgr (r : Agr.St × List Msg) (v : Value) (F' : PHeap) : Prop := ∃ ar ax b n c, v = .tuple #[.agg (cellsV r.1 (stt r.1) ar ax).toArray, .slice b n c] ∧ RefA F' (.agg (cellsV r.1 (stt r.1) ar ax).toArray) r.1 ∧ SlA F' r.1 ax ∧ RdL F' mE 13 b n r.2 ∧ (r.1.over = true → b = none ∧ n = 0 ∧ c = 0)
theorem rAgr_of {F F' : PHeap} {r : Agr.St × List Msg} {v : Value} (h : RBegan2 F r v F') : RAgr r v F' ∧ Sub F F' := by
  obtain ⟨⟨u, b, n, c, rfl, hA, hl, hs⟩, hno⟩ := h
  have hA0 := hA
  obtain ⟨_, _, ar, ax, rfl, _, hS⟩ := hA
  refine ⟨⟨ar, ax, b, n, c, rfl, hA0, hS, hl, fun e => ?_⟩, hs⟩
  obtain ⟨u, hu⟩ := hno e
  simp only [Value.tuple.injEq] at hu
  have := congrArg Array.toList hu
  simp at this
  exact this.2
theorem take_okR {H0 H : PHeap} {k : Nat} {t : TS} {b : Nat} {m : Msg} (hT : RcS H0 H k t) (hi : Iv b t) (hb : b + 100 ≤ 80000) (hn : t.at_ ≠ 0 → t.p.n ≤ 100) (hN : NearT t) (hm : OkC H0 m) (hmn : ∀ x ∈ (names_ m).l, x.size ≤ 40) :
    Triple Tryz.prog 15 #[.pointer (at0 k), Rnd.vM m] H (OutR H0 k (t.take m)) := by
  obtain ⟨F, x, hF, h, hA⟩ := hT
  have hmF := hm.mono hF
  have hdef : t.take m = if t.at_ = 0 then (t, []) else if t.agrees then t.goes (t.A.take m) else if t.refuses m then (t.over, []) else if t.takes m && takesG t.wait t.G m then (if allG t.wait (insG t.G m) then (t.got m).next else (t.got m, [])) else (t, []) := rfl
  have tl := fun h0 hg hre => tailT_okR hF h hA hi hb (hn h0) hN hg h0 hmF hmn hre
  have hre : t.refuses m = (t.at_ == 5 && (m.1 == 16 || m.1 == 19 || m.1 == 24) && m.2.2.2.2.2.2.2.2.2.1 == 10 && m.2.2.2.1 == t.ballot && eqS m.2.2.2.2.1 t.askN && (decide (m.2.1 ∈ t.askW) || m.2.1 == t.c.tg)) := rfl
  have ag : t.agrees = true → t.at_ ≠ 0 → Triple Tryz.prog 46 #[.agg (aL x).toArray, Rnd.vM m] H fun v H' => ∃ F', RAgr (t.A.take m) v F' ∧ Stay F H F' H' := fun e1 e0 =>
    Triple.ro (R := RAgr (t.A.take m)) ((raTake_ok2 (hA.ag e1) hmF.ok).mono fun v F' hq => rAgr_of hq) h.sub
  have sml : t.agrees = true → t.at_ ≠ 0 → SmlR (t.A.take m) ∧ (t.A.take m).1.p = t.p := fun e1 e0 => by
    obtain ⟨p1, p2, p3⟩ := hi.ap e1
    exact ⟨p3.take (by rw [p1]; exact hi.pok e0) (hA.ag e1).inv.len m, by rw [take_p, p1]⟩
  obtain ⟨y1, y2, y3, y4, y5, y6, y7, y8, y9, y10, ⟨ya, yb, yc, yl⟩, ⟨za, zb, zc, zl⟩, ⟨wa, wb, wc, wl⟩⟩ := m
  have han := h.p.an
  refine rcTake.vc (at0 k) y1 y2 y3 y4 y5 y6 y7 y8 y9 y10 ya yb yc za zb zc wa wb wc H _ ⟨obP k, obP k, _, h.bx.fld (i := 10) rfl, fun e => ?_, fun e => (agrees_okR h).mono ?_⟩
  · have e' : t.at_ = 0 := by simpa using e
    rw [hdef, if_pos e']
    exact ⟨SaidL.nil _, F, x, hF, h, hA⟩
  have e0 : ¬ t.at_ = 0 := by simpa using e
  rw [if_neg e0] at hdef
  rintro _ H23 ⟨rfl, hH⟩
  rw [hH]
  refine ⟨_, rfl, fun e1 => ?_, fun e1 => ?_⟩
  · have e1' : t.agrees = true := e1
    rw [if_pos e1'] at hdef
    rw [hdef]
    refine ⟨H, Sub.refl _, obP k, obP k, _, _, _, _, _, _, _, _, _, _, _, _, _, _, _, _, _, _, _, _, _, _, _, _, _, _, _, _, _, _, _, _, _, _, _, _, _, readsL h.bx 11 (aL x) rfl, (ag e1' e0).mono ?_⟩
    obtain ⟨hsm, hpp⟩ := sml e1' e0
    generalize t.A.take (y1, y2, y3, y4, y5, y6, y7, y8, y9, y10, ⟨ya, yb, yc, yl⟩, ⟨za, zb, zc, zl⟩, ⟨wa, wb, wc, wl⟩) = S at hsm hpp ⊢
    rintro _ H64 ⟨F1, ⟨ar, ax, b', n', c', rfl, hRA, hS, hl, hno⟩, st⟩
    have h1 := h.stay st
    have hs := st.hsub h.sub
    refine ⟨_, _, _, _, _, _, _, _, _, _, _, _, _, _, _, _, _, _, _, _, _, _, _, _, _, _, _, _, _, _, _, _, _, _, _, _, _, b', n', c', rfl, hs, fun k105 hk => ?_⟩
    have s5 := Sub.upd (.cells zA.toArray tA (0, 0)) hk
    have b5 : Bx (H64.upd k105 (.cells zA.toArray tA (0, 0))) k105 tA zA := Bx.new _ _ _ _
    have b6 : Bx ((H64.upd k105 (.cells zA.toArray tA (0, 0))).upd k105 (.cells (cellsV S.1 (stt S.1) ar ax).toArray tA (0, 0))) k105 tA (cellsV S.1 (stt S.1) ar ax) := Bx.new _ _ _ _
    have s6 : Sub H64 ((H64.upd k105 (.cells zA.toArray tA (0, 0))).upd k105 (.cells (cellsV S.1 (stt S.1) ar ax).toArray tA (0, 0))) := s5.wr hk
    refine ⟨hs.trans s5, _, b5.writes (cellsV S.1 (stt S.1) ar ax) rfl, ?_⟩
    generalize (H64.upd k105 (.cells zA.toArray tA (0, 0))).upd k105 (.cells (cellsV S.1 (stt S.1) ar ax).toArray tA (0, 0)) = H6 at b6 s6 ⊢
    have h2 := h1.mono s6
    refine ⟨_, _, _, _, _, _, _, _, _, _, _, _, _, _, _, _, _, _, _, _, _, _, _, _, _, _, _, _, _, _, _, _, _, _, _, _, _, b6.reads, (agreed_okR (hF.trans st.fsub) h2 hi (by omega) e1' hRA hS hl hno hsm hpp).mono fun v H' ho => outR_slice ho fun _ h => h⟩
  · have e1' : t.agrees = false := e1
    rw [if_neg (by rw [e1']; decide)] at hdef
    have tl' := tl e0 e1'
    have over : t.refuses (y1, y2, y3, y4, y5, y6, y7, y8, y9, y10, ⟨ya, yb, yc, yl⟩, ⟨za, zb, zc, zl⟩, ⟨wa, wb, wc, wl⟩) = true → Triple Tryz.prog 40 #[.pointer (at0 k)] H fun v H' => ∃ a n c, v = .slice a n c ∧ OutR H0 k (t.take (y1, y2, y3, y4, y5, y6, y7, y8, y9, y10, ⟨ya, yb, yc, yl⟩, ⟨za, zb, zc, zl⟩, ⟨wa, wb, wc, wl⟩)) (.slice a n c) H' := fun er => by
      refine (over_outR hF h).mono ?_
      rintro _ H' ⟨rfl, hq⟩
      exact ⟨_, _, _, rfl, by rw [hdef, if_pos er]; exact hq⟩
    have hkk : (y1 == 16 || y1 == 19 || y1 == 24) = (bif y1 == 16 then true else bif y1 == 19 then true else y1 == 24) := by
      cases (y1 == 16) <;> cases (y1 == 19) <;> rfl
    have hre' : t.refuses (y1, y2, y3, y4, y5, y6, y7, y8, y9, y10, ⟨ya, yb, yc, yl⟩, ⟨za, zb, zc, zl⟩, ⟨wa, wb, wc, wl⟩) = (t.at_ == 5 && (y1 == 16 || y1 == 19 || y1 == 24) && y10 == 10 && y4 == t.ballot && eqS y5 t.askN && (decide (y2 ∈ t.askW) || y2 == t.c.tg)) := hre
    rw [hkk] at hre'
    have awl := h.p.aw.len
    have awc := hi.core.aw
    refine ⟨H, Sub.refl _, obP k, obP k, _, h.bx.fld (i := 10) rfl, fun c1 => ⟨fun c2 => ⟨fun c3 => ⟨obP k, obP k, _, h.bx.fld (i := 6) rfl, fun c4 => ⟨obP k, obP k, obK k 40, _, h.bx.fld (i := 44) rfl, fun c5 => ⟨obP k, obP k, obK k 7, _, h.bx.fld (i := 9) rfl, fun c6 => ⟨obP k, obP k, obK k 40, _, _, _, h.bx.fld (i := 50) rfl, (has_ok (x := y2) (h.p.aw.mono h.sub) (by omega)).mono ?_⟩, fun c6 => ?_⟩, fun c5 => ?_⟩, fun c4 => ?_⟩, fun c3 => ?_⟩, fun c2 => ?_⟩, fun c1 => ?_⟩
    · rintro _ H158 ⟨rfl, hH2⟩
      rw [hH2]
      have c5' : eqS y5 t.askN = true := by rw [← han]; exact c5
      refine ⟨_, rfl, fun c7 => over ?_, fun c7 => tl' ?_⟩
      · rw [hre', c1, c2, c3, c4, c5', c7]; rfl
      · rw [hre', c6, c7]; simp
    · have c5' : eqS y5 t.askN = true := by rw [← han]; exact c5
      have c6' : (y2 == t.c.tg) = true := by simpa using c6
      exact over (by rw [hre', c1, c2, c3, c4, c5', c6']; simp)
    · have c5' : eqS y5 t.askN = false := by rw [← han]; simpa using c5
      exact tl' (by rw [hre', c5']; simp)
    · have c4' : (y4 == t.ballot) = false := by simpa using c4
      exact tl' (by rw [hre', c4']; simp)
    · have c3' : (y10 == 10) = false := by simpa using c3
      exact tl' (by rw [hre', c3']; simp)
    · have c2' : (bif y1 == 16 then true else bif y1 == 19 then true else y1 == 24) = false := c2
      exact tl' (by rw [hre', c2']; simp)
    · have c1' : (t.at_ == 5) = false := by simpa using c1
      exact tl' (by rw [hre', c1']; simp)
theorem tick_okR {H0 H : PHeap} {k : Nat} {t : TS} {b : Nat} (hT : RcS H0 H k t) (hi : Iv b t) (hb : b ≤ 80000) (hn : t.at_ ≠ 0 → t.p.n ≤ 100) (hN : NearT t) :
    Triple Tryz.prog 13 #[.pointer (at0 k)] H (OutR H0 k t.tick) := by
  obtain ⟨F, x, hF, h, hA⟩ := hT
  have hdef : t.tick = if t.at_ = 0 then (t, []) else if t.agrees then t.goes t.A.tick else if t.told then t.next else t.late := rfl
  refine rcTick.vc (at0 k) H _ ⟨obP k, obP k, _, h.bx.fld (i := 10) rfl, fun e => ?_, fun e => (agrees_okR h).mono ?_⟩
  · have e' : t.at_ = 0 := by simpa using e
    rw [hdef, if_pos e']
    exact ⟨SaidL.nil _, F, x, hF, h, hA⟩
  have e0 : ¬ t.at_ = 0 := by simpa using e
  rw [if_neg e0] at hdef
  rintro _ H23 ⟨rfl, hH⟩
  rw [hH]
  refine ⟨_, rfl, fun e1 => ?_, fun e1 => ?_⟩
  · have e1' : t.agrees = true := e1
    rw [if_pos e1'] at hdef
    rw [hdef]
    obtain ⟨p1, p2, p3⟩ := hi.ap e1'
    have hpA : t.A.p.ok = true := by rw [p1]; exact hi.pok e0
    have hGl := (hA.ag e1').inv.len
    have hja := (p3.judge hpA (by omega)).s.asks
    refine ⟨obP k, obP k, _, _, _, _, _, _, _, _, _, _, _, _, _, _, _, _, _, _, _, _, _, _, _, _, _, _, _, _, _, _, _, _, _, _, _, _, _, readsL h.bx 11 (aL x) rfl,
      (Triple.ro (R := RAgr t.A.tick) ((raTick_ok2 (hA.ag e1') (by omega)).mono fun v F' hq => rAgr_of hq) h.sub).mono ?_⟩
    have hsm : SmlR t.A.tick := p3.tick hpA hGl
    have hpp : t.A.tick.1.p = t.p := by rw [tick_p, p1]
    generalize t.A.tick = S at hsm hpp ⊢
    rintro _ H64 ⟨F1, ⟨ar, ax, b', n', c', rfl, hRA, hS, hl, hno⟩, st⟩
    have h1 := h.stay st
    refine ⟨_, _, _, _, _, _, _, _, _, _, _, _, _, _, _, _, _, _, _, _, _, _, _, _, _, _, _, _, _, _, _, _, _, _, _, _, _, b', n', c', rfl, (agreed_okR (hF.trans st.fsub) h1 hi hb e1' hRA hS hl hno hsm hpp).mono fun v H' ho => outR_slice ho fun _ h => h⟩
  · have e1' : t.agrees = false := e1
    rw [if_neg (by rw [e1']; decide)] at hdef
    obtain ⟨hrt, asks, hR, hB, hokA, hGok⟩ := hA.rd e1' e0
    have hp := hi.pok e0
    have hG := core_G hi.core hp (hn e0)
    have gl := hR.got.len
    have al := hR.asks.len
    have alc := hi.core.al
    have hBl : asks.length = t.asks.length := by rw [← hB, List.length_map]
    refine (judge_okR hF h hA hi hb (hn e0) hN e1' e0).mono ?_
    rintro _ H91 ⟨a, n, c, rfl, g1, g2⟩
    refine ⟨a, n, c, _, rfl, fun e2 => ?_, fun e2 => ?_⟩
    · have e2' : t.told = true := e2
      rw [hdef, if_pos e2']
      exact g1 e2'
    · have e2' : t.told = false := e2
      obtain ⟨rfl, rfl, rfl, hH2⟩ := g2 e2'
      rw [hH2]
      have hld : t.late = if t.tries = 0 then (t.over, []) else ({ t with tries := IntKind.i64.wrap (t.tries - 1) }, againG t.asks t.G) := rfl
      rw [if_neg (by rw [e2']; decide), hld] at hdef
      refine ⟨obP k, obP k, _, _, _, _, _, _, _, _, _, _, readsL h.bx 36 (rL x.rr x.rt) rfl,
        (Triple.ro (R := fun v F' => (x.rt = 0 ∧ v = .tuple #[x.rr.v x.rt, .slice none 0 0, .bool true]) ∨ (x.rt ≠ 0 ∧ ∃ b m c, v = .tuple #[x.rr.v (IntKind.i64.wrap (x.rt - 1)), .slice b m c, .bool false] ∧ RdL F' mE 13 b m (againG asks t.G)))
          ((Rnd.refTick_ok (tries := x.rt) hR (by omega) (by omega)).mono fun v F' hq => by
            rcases hq with ⟨q1, q2, q3⟩ | ⟨q1, q2, q3⟩
            · exact ⟨.inl ⟨q1, q2⟩, by rw [q3]; exact Sub.refl _⟩
            · exact ⟨.inr ⟨q1, q3⟩, q2⟩) h.sub).mono ?_⟩
      rintro _ H107 ⟨F1, hq, st⟩
      have h1 := h.stay st
      have hF1 := hF.trans st.fsub
      rcases hq with ⟨q1, rfl⟩ | ⟨q1, b2, m2, c2, rfl, hrd⟩
      · refine ⟨_, _, _, _, _, _, _, _, _, _, none, 0, 0, true, rfl, obP k, obP k, _, wR h1.bx x.rr x.rt, fun _ => ?_, fun e => by cases e⟩
        have h2 := h1.put (t' := t) (x' := { x with rr := x.rr, rt := x.rt }) (h1.p.wr rfl rfl rfl rfl rfl rfl rfl rfl rfl rfl rfl) rfl rfl
        refine (over_outR hF1 h2).mono ?_
        rintro _ H' ⟨rfl, hq⟩
        exact ⟨_, _, _, rfl, by rw [hdef, if_pos (by rw [← hrt]; exact q1)]; exact hq⟩
      · refine ⟨_, _, _, _, _, _, _, _, _, _, b2, m2, c2, false, rfl, obP k, obP k, _, wR h1.bx x.rr (IntKind.i64.wrap (x.rt - 1)), fun e => (by cases e), fun _ => ?_⟩
        have h2 := h1.put (t' := { t with tries := IntKind.i64.wrap (t.tries - 1) }) (x' := { x with rr := x.rr, rt := IntKind.i64.wrap (x.rt - 1) }) (h1.p.wr rfl rfl rfl rfl rfl rfl rfl rfl rfl rfl rfl) rfl rfl
        rw [hdef, if_neg (by rw [← hrt]; exact q1)]
        refine ⟨⟨b2, m2, c2, _, rfl, hrd.mono h2.sub, fun z hz => (hokA z (List.mem_filter.1 hz).1).mono (st.fsub.trans h2.sub), ?_⟩, F1, _, hF1, h2, ⟨fun e => ?_, fun _ _ => ⟨?_, asks, hR.mono st.fsub, hB, fun z hz => (hokA z hz).mono st.fsub, fun z hz => (hGok z hz).mono st.fsub⟩⟩⟩
        · rw [strip_again, hB]
        · have : t.agrees = true := e
          rw [e1'] at this; cases this
        · show IntKind.i64.wrap (x.rt - 1) = IntKind.i64.wrap (t.tries - 1)
          rw [hrt]
end Go.Cho
namespace Go.Vc
open Go.Vx Go Go.Proofs.Tryz
def lawCPlays.cx : Cx := ⟨[], [(6, [8, 10, 11], [])], [], []⟩
def lawCFar.cx : Cx := ⟨[], [], [], []⟩
def lawCAlive.cx : Cx := ⟨[], [(3, [15], [])], [], []⟩
def lawCSame.cx : Cx := ⟨[], [(4, [13], [])], [], []⟩
theorem lawCPlays.vc (n1 n2 n3 n4 n5 n6 n7 n8 : Int) (s9 : ByteArray) (n10 : Int) (a11 : Option Addr) (k12 k13 : Nat) (H : PHeap) (Q : Value -> PHeap -> Prop)
 (h : Triple prog 5 #[.agg #[iw n1, iw n2, iw n3, iw n4, iw n5, iw n6], .agg #[iw n8, .string s9, iw n10], sw a11 k12 k13] H fun v14 H15 => ∃ b16, v14 = .bool b16 /\
 ((bif b16 then true else bif decide (n7 < 0) then true else decide (n7 > 1099511627776)) = true -> Triple prog 6 #[] H15 fun v17 H18 => ∃ b19, v17 = .bool b19 /\ Q (.bool b19) H18) /\
 ((bif b16 then true else bif decide (n7 < 0) then true else decide (n7 > 1099511627776)) = false -> Triple prog 7 #[.agg #[iw n1, iw n2, iw n3, iw n4, iw n5, iw n6], iw n7, .agg #[iw n8, .string s9, iw n10]]
 H15 fun v20 H21 => ∃ a22 a23 k24 k25, v20 = .tuple #[.pointer a22, sw a23 k24 k25] /\ Triple prog 8 #[.agg #[iw n1, iw n2, iw n3, iw n4, iw n5, iw n6], iw n7, .agg #[iw n8, .string s9, iw n10]] H21 fun v26 H27 =>
 ∃ a28 a29 k30 k31, v26 = .tuple #[.pointer a28, sw a29 k30 k31] /\ ∃ (R32 : Rl) (M33 : Mu), R32 [sw a23 k24 k25, sw a29 k30 k31, iw 0] H27 /\
 ∀ (a34 : Option Addr) (k35 k36 : Nat) (a37 : Option Addr) (k38 k39 : Nat) (n40 : Int) (H41 : PHeap), R32 [sw a34 k35 k36, sw a37 k38 k39, iw n40] H41 -> (decide (n40 ≤ (k12 : Int)) = true ->
 Triple prog 9 #[.pointer a22] H41 fun v42 H43 => ∃ a44 k45 k46 b47, v42 = .tuple #[sw a44 k45 k46, .bool b47] /\ Triple prog 10 #[sw a34 k35 k36, sw a37 k38 k39] H43 fun v48 H49 => ∃ b50, v48 = .bool b50 /\
 ((!b50) = false -> Ob (a28 ≠ none) /\ Ob (a28 ≠ none) /\ ∃ n51, Reads H49 (fldA a28 10) [iw n51] /\ ((!b47 == (n51 == 0)) = false -> (b47 = true -> Ob (a28 ≠ none) /\ Ob (a28 ≠ none) /\ ∃ a52 k53 k54,
 Reads H49 (fldA a28 58) [sw a52 k53 k54] /\ Triple prog 11 #[sw a44 k45 k46, sw a52 k53 k54] H49 fun v55 H56 => ∃ b57, v55 = .bool b57 /\
 ((bif !b57 then true else bif !b47 then (k45 : Int) != 0 else false) = true -> Q (.bool false) H56) /\ ((bif !b57 then true else bif !b47 then (k45 : Int) != 0 else false) = false -> ((n40 == (k12 : Int)) = true ->
 Triple prog 6 #[] H56 fun v58 H59 => ∃ b60, v58 = .bool b60 /\ Q (.bool b60) H59) /\ ((n40 == (k12 : Int)) = false -> Ob (a11 ≠ none /\ 0 ≤ n40 /\ n40 < (k12 : Int)) /\ Ob (elemA a11 n40 13 ≠ none) /\ ∃ n61,
 Reads H56 (fldA (elemA a11 n40 13) 0) [iw n61] /\ ((n61 == 0) = true -> Triple prog 12 #[.pointer a22] H56 fun v62 H63 => ∃ a64 k65 k66, v62 = sw a64 k65 k66 /\ Triple prog 13 #[.pointer a28] H63 fun v67 H68 =>
 ∃ a69 k70 k71, v67 = sw a69 k70 k71 /\ R32 [sw a64 k65 k66, sw a69 k70 k71, iw (IntKind.i64.wrap (n40 + 1))] H68 /\ Less (M33 [sw a64 k65 k66, sw a69 k70 k71, iw (IntKind.i64.wrap (n40 + 1))] H68)
 (M33 [sw a34 k35 k36, sw a37 k38 k39, iw n40] H41)) /\ ((n61 == 0) = false -> ∃ H72, Vx.Sub H72 H56 /\ Ob (a11 ≠ none /\ 0 ≤ n40 /\ n40 < (k12 : Int)) /\
 ∃ n73 n74 n75 n76 s77 n78 n79 n80 n81 n82 a83 k84 k85 a86 k87 k88 a89 k90 k91, Reads H72 (elemA a11 n40 13) [iw n73, iw n74, iw n75, iw n76, .string s77, iw n78, iw n79, iw n80, iw n81,
 iw n82, sw a83 k84 k85, sw a86 k87 k88, sw a89 k90 k91] /\ Ob (a11 ≠ none /\ 0 ≤ n40 /\ n40 < (k12 : Int)) /\ ∃ n92 n93 n94 n95 s96 n97 n98 n99 n100 n101 a102 k103 k104 a105 k106 k107 a108 k109 k110,
 Reads H72 (elemA a11 n40 13) [iw n92, iw n93, iw n94, iw n95, .string s96, iw n97, iw n98, iw n99, iw n100, iw n101, sw a102 k103 k104, sw a105 k106 k107, sw a108 k109 k110] /\ Triple prog 14 #[.pointer a22, Value.agg
 #[iw n73, iw n74, iw n75, iw n76, .string s77, iw n78, iw n79, iw n80, iw n81, iw n82, sw a83 k84 k85, sw a86 k87 k88, sw a89 k90 k91]] H56 fun v111 H112 => ∃ a113 k114 k115, v111 = sw a113 k114 k115 /\
 Vx.Sub H72 H112 /\ Triple prog 15 #[.pointer a28, Value.agg #[iw n92, iw n93, iw n94, iw n95, .string s96, iw n97, iw n98, iw n99, iw n100, iw n101, sw a102 k103 k104, sw a105 k106 k107, sw a108 k109 k110]]
 H112 fun v116 H117 => ∃ a118 k119 k120, v116 = sw a118 k119 k120 /\ R32 [sw a113 k114 k115, sw a118 k119 k120, iw (IntKind.i64.wrap (n40 + 1))] H117 /\ Less (M33 [sw a113 k114 k115, sw a118 k119 k120,
 iw (IntKind.i64.wrap (n40 + 1))] H117) (M33 [sw a34 k35 k36, sw a37 k38 k39, iw n40] H41))))) /\ (b47 = !true -> ((bif !b47 then (k45 : Int) != 0 else false) = true -> Q (.bool false) H49) /\
 ((bif !b47 then (k45 : Int) != 0 else false) = false -> ((n40 == (k12 : Int)) = true -> Triple prog 6 #[] H49 fun v121 H122 => ∃ b123, v121 = .bool b123 /\ Q (.bool b123) H122) /\ ((n40 == (k12 : Int)) = false ->
 Ob (a11 ≠ none /\ 0 ≤ n40 /\ n40 < (k12 : Int)) /\ Ob (elemA a11 n40 13 ≠ none) /\ ∃ n124, Reads H49 (fldA (elemA a11 n40 13) 0) [iw n124] /\ ((n124 == 0) = true -> Triple prog 12 #[.pointer a22] H49 fun v125 H126 =>
 ∃ a127 k128 k129, v125 = sw a127 k128 k129 /\ Triple prog 13 #[.pointer a28] H126 fun v130 H131 => ∃ a132 k133 k134, v130 = sw a132 k133 k134 /\ R32 [sw a127 k128 k129, sw a132 k133 k134,
 iw (IntKind.i64.wrap (n40 + 1))] H131 /\ Less (M33 [sw a127 k128 k129, sw a132 k133 k134, iw (IntKind.i64.wrap (n40 + 1))] H131) (M33 [sw a34 k35 k36, sw a37 k38 k39, iw n40] H41)) /\ ((n124 == 0) = false -> ∃ H135,
 Vx.Sub H135 H49 /\ Ob (a11 ≠ none /\ 0 ≤ n40 /\ n40 < (k12 : Int)) /\ ∃ n136 n137 n138 n139 s140 n141 n142 n143 n144 n145 a146 k147 k148 a149 k150 k151 a152 k153 k154, Reads H135 (elemA a11 n40 13)
 [iw n136, iw n137, iw n138, iw n139, .string s140, iw n141, iw n142, iw n143, iw n144, iw n145, sw a146 k147 k148, sw a149 k150 k151, sw a152 k153 k154] /\ Ob (a11 ≠ none /\ 0 ≤ n40 /\ n40 < (k12 : Int)) /\
 ∃ n155 n156 n157 n158 s159 n160 n161 n162 n163 n164 a165 k166 k167 a168 k169 k170 a171 k172 k173, Reads H135 (elemA a11 n40 13) [iw n155, iw n156, iw n157, iw n158, .string s159, iw n160, iw n161, iw n162, iw n163,
 iw n164, sw a165 k166 k167, sw a168 k169 k170, sw a171 k172 k173] /\ Triple prog 14 #[.pointer a22, Value.agg #[iw n136, iw n137, iw n138, iw n139, .string s140, iw n141, iw n142, iw n143, iw n144,
 iw n145, sw a146 k147 k148, sw a149 k150 k151, sw a152 k153 k154]] H49 fun v174 H175 => ∃ a176 k177 k178, v174 = sw a176 k177 k178 /\ Vx.Sub H135 H175 /\ Triple prog 15 #[.pointer a28, Value.agg #[iw n155, iw n156,
 iw n157, iw n158, .string s159, iw n160, iw n161, iw n162, iw n163, iw n164, sw a165 k166 k167, sw a168 k169 k170, sw a171 k172 k173]] H175 fun v179 H180 => ∃ a181 k182 k183, v179 = sw a181 k182 k183 /\ R32
 [sw a176 k177 k178, sw a181 k182 k183, iw (IntKind.i64.wrap (n40 + 1))] H180 /\ Less (M33 [sw a176 k177 k178, sw a181 k182 k183, iw (IntKind.i64.wrap (n40 + 1))] H180) (M33 [sw a34 k35 k36, sw a37 k38 k39, iw n40]
 H41)))))) /\ ((!b47 == (n51 == 0)) = !false -> Q (.bool false) H49)) /\ ((!b50) = !false -> Q (.bool false) H49)) /\
 (decide (n40 ≤ (k12 : Int)) = false -> Triple prog 6 #[] H41 fun v184 H185 => ∃ b186, v184 = .bool b186 /\ Q (.bool b186) H185))) : Triple prog 3 ([.agg #[iw n1, iw n2, iw n3, iw n4, iw n5, iw n6],
 .agg #[iw n7, iw n8, .string s9, iw n10], sw a11 k12 k13]).toArray H Q := Triple.of_vc lawCPlays.cx (by kernel_rfl) h
theorem lawCFar.vc (n1 n2 n3 n4 n5 n6 n7 : Int) (s8 : ByteArray) (n9 : Int) (a10 : Option Addr) (k11 k12 : Nat) (H : PHeap) (Q : Value -> PHeap -> Prop)
 (h : Triple prog 17 #[sw a10 k11 k12] H fun v13 H14 => ∃ b15, v13 = .bool b15 /\ (b15 = false -> Triple prog 16 #[.agg #[iw n1, iw n2, iw n3, iw n4, iw n5, iw n6]] H14
 fun v16 H17 => ∃ b18, v16 = .bool b18 /\ Q (.bool (bif b18 then bif decide (n1 > 12) then true else decide ((s8.size : Int) > 40) else decide ((s8.size : Int) > 40))) H17) /\ (b15 = !false -> Q (.bool true) H14)) :
 Triple prog 5 ([.agg #[iw n1, iw n2, iw n3, iw n4, iw n5, iw n6], .agg #[iw n7, .string s8, iw n9], sw a10 k11 k12]).toArray H Q := Triple.of_vc lawCFar.cx (by kernel_rfl) h
theorem lawCAlive.vc (H : PHeap) (Q : Value -> PHeap -> Prop)
 (h : Triple prog 18 #[] H fun v1 H2 => ∃ n3 n4 n5 n6 n7 n8, v1 = .agg #[iw n3, iw n4, iw n5, iw n6, iw n7, iw n8] /\ Triple prog 7 #[.agg #[iw n3, iw n4, iw n5, iw n6, iw n7, iw n8],
 iw 5, .agg #[iw 1, .string ({ data := #[] } : ByteArray), iw 0]] H2 fun v9 H10 => ∃ a11 a12 k13 k14, v9 = .tuple #[.pointer a11, sw a12 k13 k14] /\ ∃ (R15 : Rl) (M16 : Mu), R15 [iw 0] H10 /\
 ∀ (n17 : Int) (H18 : PHeap), R15 [iw n17] H18 -> (decide (n17 < (k13 : Int)) = true -> Ob (a12 ≠ none /\ 0 ≤ n17 /\ n17 < (k13 : Int)) /\ ∃ n19 n20 n21 n22 s23 n24 n25 n26 n27 n28 a29 k30 k31 a32 k33 k34 a35 k36 k37,
 Reads H18 (elemA a12 n17 13) [iw n19, iw n20, iw n21, iw n22, .string s23, iw n24, iw n25, iw n26, iw n27, iw n28, sw a29 k30 k31, sw a32 k33 k34, sw a35 k36 k37] /\ ∀ (k38 : Nat), H18 k38 = none -> Triple prog 14
 #[.pointer a11, Value.agg #[iw 20, iw n21, iw 0, iw 5, .string ({ data := #[] } : ByteArray), iw 0, iw 0, iw 0, iw 0, iw 1, sw (at0 k38) 1 1, sw none 0 0, sw none 0 0]]
 (H18.upd k38 (Obj.cells #[iw 1] 3)) fun v39 H40 => ∃ a41 k42 k43, v39 = sw a41 k42 k43 /\ R15 [iw (IntKind.i64.wrap (n17 + 1))] H40 /\ Less (M16 [iw (IntKind.i64.wrap (n17 + 1))] H40) (M16 [iw n17] H18)) /\
 (decide (n17 < (k13 : Int)) = false -> Triple prog 9 #[.pointer a11] H18 fun v44 H45 => ∃ a46 k47 k48 b49,
 v44 = .tuple #[sw a46 k47 k48, .bool b49] /\ Q (.bool (bif (k13 : Int) == 4 then bif b49 then (k47 : Int) == 0 else false else false)) H45)) : Triple prog 6 ([]).toArray H Q :=
 Triple.of_vc lawCAlive.cx (by kernel_rfl) h
theorem lawCSame.vc (a1 : Option Addr) (k2 k3 : Nat) (a4 : Option Addr) (k5 k6 : Nat) (H : PHeap) (Q : Value -> PHeap -> Prop)
 (h : (((k2 : Int) != (k5 : Int)) = true -> Q (.bool false) H) /\ (((k2 : Int) != (k5 : Int)) = false -> ∃ (R7 : Rl) (M8 : Mu), R7 [iw 0] H /\ ∀ (n9 : Int) (H10 : PHeap), R7 [iw n9] H10 ->
 (decide (n9 < (k2 : Int)) = true -> ∃ H11, Vx.Sub H11 H10 /\ Ob (a1 ≠ none /\ 0 ≤ n9 /\ n9 < (k2 : Int)) /\ ∃ n12 s13 n14, Reads H11 (elemA a1 n9 3) [iw n12, .string s13, iw n14] /\
 Ob (a4 ≠ none /\ 0 ≤ n9 /\ n9 < (k5 : Int)) /\ ∃ n15 s16 n17, Reads H11 (elemA a4 n9 3) [iw n15, .string s16, iw n17] /\ ((!(n12 == n15 && (eqS s13 s16 && n14 == n17))) = true -> Q (.bool false) H10) /\
 ((!(n12 == n15 && (eqS s13 s16 && n14 == n17))) = false -> R7 [iw (IntKind.i64.wrap (n9 + 1))] H10 /\ Less (M8 [iw (IntKind.i64.wrap (n9 + 1))] H10) (M8 [iw n9] H10))) /\
 (decide (n9 < (k2 : Int)) = false -> Q (.bool true) H10))) : Triple prog 11 ([sw a1 k2 k3, sw a4 k5 k6]).toArray H Q := Triple.of_vc lawCSame.cx (by kernel_rfl) h
end Go.Vc
namespace Go.Cho
open Go.Vx Go.Vc Go.Proofs Go.Pln Go.Stl Go.Agr
open Go.Rnd (takesG insG froms againG OkM AscG RdS Both)
open Go.Txt (sE)
open Go.Page (limL namesL susL susStep cntL sumN names_ noS stateL)
def Near (m : Msg) : Prop := (names_ m).n ≤ 20 ∧ ∀ x ∈ (names_ m).l, x.size ≤ 40
theorem farM_okC {H : PHeap} {m : Msg} (h : MsgR H m) : Triple Tryz.prog 51 #[Rnd.vM m] H fun v H' => ∃ b, v = .bool b ∧ H' = H ∧ (b = false → OkC H m ∧ Near m) := by
  obtain ⟨y1, y2, y3, y4, y5, y6, y7, y8, y9, y10, ⟨ya, yb, yc, yl⟩, ⟨za, zb, zc, zl⟩, ⟨wa, wb, wc, wl⟩⟩ := m
  have hz : RdL H sE 1 za zb zl := h.names
  refine farM.vc y1 y2 y3 y4 y5 y6 y7 y8 y9 y10 ya yb yc za zb zc wa wb wc H _ ⟨fun _ => ⟨fun e2 => ⟨fun e3 => ⟨fun e4 => (Lab.far_ok hz).mono ?_, fun _ => ⟨true, rfl, rfl, fun e => by cases e⟩⟩, fun _ => ⟨true, rfl, rfl, fun e => by cases e⟩⟩, fun _ => ⟨true, rfl, rfl, fun e => by cases e⟩⟩, fun _ => ⟨true, rfl, rfl, fun e => by cases e⟩⟩
  rintro _ H' ⟨b, rfl, rfl, hb⟩
  simp at e2 e3 e4
  exact ⟨b, rfl, b, rfl, rfl, fun e => ⟨⟨⟨h.who, h.names, h.data, by show yb ≤ 100000; omega, by show zb ≤ 100000; omega, by show wb ≤ 100000; omega⟩, by show zb ≤ 100; omega⟩, by show zb ≤ 20; omega, (hb e).2⟩⟩
theorem farC_ok {H : PHeap} {oa : Option Addr} {n c : Nat} {l : List Msg} (hl : RdL H mE 13 oa n l) (hm : ∀ m ∈ l, MsgR H m) (hn : n ≤ maxLen) :
    Triple Tryz.prog 17 #[.slice oa n c] H fun v H' => ∃ b, v = .bool b ∧ H' = H ∧ (b = false → n ≤ 200 ∧ ∀ m ∈ l, OkC H m ∧ Near m) := by
  have hll := hl.len
  have hmx : maxLen ≤ 9223372036854775807 := by decide
  refine lawFar.vc oa n c H _ ⟨fun t H' => match t with | [.int _ i] => 0 ≤ i ∧ i ≤ n ∧ H' = H ∧ ∀ m ∈ l.take i.toNat, OkC H m ∧ Near m | _ => False, fun t _ => match t with | [.int _ i] => (n - i).toNat | _ => 0, ⟨by omega, by omega, rfl, by simp⟩, ?_⟩
  rintro i H1 ⟨i0, i1, hH, hall⟩
  obtain rfl := hH.symm
  obtain ⟨i, rfl⟩ : ∃ j : Nat, i = j := ⟨i.toNat, by omega⟩
  rw [Int.toNat_natCast] at hall
  refine ⟨fun hi => ?_, fun hi => ?_⟩
  · have hi' : i < n := by simpa using hi
    obtain ⟨x, hx, hxr⟩ := hl.ex (i := (i : Int)) (by omega) (by omega)
    rw [Int.toNat_natCast] at hx
    have hfar := farM_okC (hm x (List.mem_of_getElem? hx))
    have key : ∀ b : Bool, (b = false → OkC H x ∧ Near x) → b = false → ∀ m ∈ l.take (i + 1), OkC H m ∧ Near m := fun b hb e m hm' => by
      rw [List.take_add_one, hx] at hm'
      rcases List.mem_append.1 hm' with h | h
      · exact hall m h
      · simp at h; subst h; exact hb e
    obtain ⟨y1, y2, y3, y4, y5, y6, y7, y8, y9, y10, ⟨ya, yb, yc, yl⟩, ⟨za, zb, zc, zl⟩, ⟨wa, wb, wc, wl⟩⟩ := x
    refine ⟨hl.ob (by omega) (by omega), y1, y2, y3, y4, y5, y6, y7, y8, y9, y10, ya, yb, yc, za, zb, zc, wa, wb, wc, hxr, hfar.mono ?_⟩
    rintro _ H28 ⟨b, rfl, hH, hb⟩
    obtain rfl := hH.symm
    refine ⟨b, rfl, fun e => ⟨true, rfl, rfl, fun e => by cases e⟩, fun e => ?_⟩
    rw [wrap64 (by omega) (by omega)]
    exact ⟨⟨by omega, by omega, rfl, by rw [show ((i : Int) + 1).toNat = i + 1 by omega]; exact key b hb e⟩, ⟨by simp only; omega⟩⟩
  · have hi' : ¬ i < n := by simpa using hi
    rw [List.take_of_length_le (by omega)] at hall
    exact ⟨_, rfl, rfl, fun e => ⟨by simp at e; omega, hall⟩⟩
theorem farW_ok {H : PHeap} {p : Plan} {ch : Ch} {oa : Option Addr} {n c : Nat} {l : List Msg} (hl : RdL H mE 13 oa n l) (hm : ∀ m ∈ l, MsgR H m) (hn : n ≤ maxLen) :
    Triple Tryz.prog 5 #[p.v, .agg #[vI ch.k, .string ch.nm, vI ch.tg], .slice oa n c] H fun v H' => ∃ b, v = .bool b ∧ H' = H ∧ (b = false → n ≤ 200 ∧ (∀ m ∈ l, OkC H m ∧ Near m) ∧ (p.ok = true → p.n ≤ 12) ∧ ch.nm.size ≤ 40) := by
  refine lawCFar.vc p.n p.t p.l p.w p.s p.r ch.k ch.nm ch.tg oa n c H _ ((farC_ok hl hm hn).mono ?_)
  rintro _ H1 ⟨b, rfl, hH, hb⟩
  obtain rfl := hH.symm
  refine ⟨b, rfl, fun e => (refRight_ok p).use ⟨_, rfl, _, rfl, rfl, fun e2 => ?_⟩, fun _ => ⟨true, rfl, rfl, fun e => by cases e⟩⟩
  obtain ⟨h1, h2⟩ := hb e
  refine ⟨h1, h2, fun hp => ?_, ?_⟩
  · rw [hp] at e2
    by_cases h : p.n > 12
    · simp [h] at e2
    · omega
  · by_cases h : (ch.nm.size : Int) > 40
    · exfalso
      rw [decide_eq_true h] at e2
      revert e2
      cases p.ok <;> cases decide (p.n > 12) <;> decide
    · omega
theorem TkS.sub {H0 H : PHeap} {k : Nat} {t : TS} (h : TkS H0 H k t) : Sub H0 H := by
  obtain ⟨F, A, B, x, h1, h2, _⟩ := h
  exact h1.trans (h2.fa.trans h2.a)
theorem grow_upd {F A : PHeap} {q : Nat} {o : Obj} (hs : Sub F A) (hq : A q = none) : grow F A (A.upd q o) = F.upd q o := funext fun p => by
  by_cases e : p = q
  · subst e
    rw [grow_at hq, Vx.upd_eq, Vx.upd_eq]
  · rw [Vx.upd_ne _ _ e]
    unfold grow
    cases hA : A p with
    | none => simp only; rw [Vx.upd_ne _ _ e, hA, hs.none hA]
    | some o' => rfl
theorem TkS.ext {H0 H : PHeap} {k q : Nat} {t : TS} {o : Obj} (h : TkS H0 H k t) (hq : H q = none) : TkS (H0.upd q o) (H.upd q o) k t := by
  obtain ⟨F, A, B, x, h1, h2, h3, h4⟩ := h
  have qA := h2.a.none hq
  have qB := h2.b.none hq
  have qF := h2.fa.none qA
  have up : ∀ {X Y : PHeap}, Sub X Y → Sub (X.upd q o) (Y.upd q o) := fun {X} {Y} hs => ⟨fun p o' hp => by
    by_cases e : p = q
    · rw [e, Vx.upd_eq] at hp ⊢; exact hp
    · rw [Vx.upd_ne _ _ e] at hp ⊢; exact hs.le _ _ hp⟩
  have hkq : k ≠ q := fun e => h3.bk (by rw [e]; exact qB)
  have sA : Sub A (A.upd q o) := Sub.upd o qA
  have sB : Sub B (B.upd q o) := Sub.upd o qB
  have sF : Sub F (F.upd q o) := Sub.upd o qF
  have offs : ∀ {ty : TypeId} {sz n c : Nat} {oa : Option Addr} {xs : List Value}, Owns B ty sz oa n c xs → Off F oa → Off (F.upd q o) oa := fun ho hf z hz => by
    subst hz
    obtain ⟨o', ho'⟩ := ho.blk
    rw [Vx.upd_ne _ _ fun e => by rw [e, qB] at ho'; cases ho']
    exact hf z rfl
  refine ⟨F.upd q o, A.upd q o, B.upd q o, x, up h1, ⟨up h2.fa, up h2.fb, up h2.a, up h2.b, fun p hp => ?_⟩,
    ⟨up h3.sub, by rw [Vx.upd_ne _ _ hkq]; exact h3.off, h3.bx.sub sB, h3.pn.mono sF, h3.ps.mono fun _ _ _ hb => sB.le _ _ hb, h3.nm.mono sF, h3.nmc, h3.su.mono fun _ _ _ hb => sB.le _ _ hb, h3.ch.mono fun _ _ _ hb => sB.le _ _ hb,
      ⟨offs h3.ps h3.ap.ps, offs h3.su h3.ap.su, offs h3.ch h3.ap.ch, h3.ap.psk, h3.ap.suk, h3.ap.chk, h3.ap.pu, h3.ap.pc, h3.ap.uc⟩, h3.an, h3.aw.mono sF⟩, ⟨h4.j, fun e => ?_, fun e e0 => ?_, h4.no⟩⟩
  · by_cases e : p = q
    · rw [e, Vx.upd_eq] at hp; cases hp
    · rw [Vx.upd_ne _ _ e] at hp ⊢
      rw [Vx.upd_ne _ _ e]
      exact h2.apart p hp
  · obtain ⟨ka, e1, kr, hA⟩ := h4.ag e
    have hka : ka ≠ q := fun e => by
      obtain ⟨_, _, _, _, _, _, _, _, _, _, h8, _⟩ := hA
      unfold Bx at h8
      rw [e, qA] at h8; cases h8
    exact ⟨ka, e1, kr, hA.ext sA sF (up h2.fa) (by rw [Vx.upd_ne _ _ hka]; exact hA.off) fun q' o' hq' => by
      by_cases e : q' = q
      · rw [e]; exact .inr qA
      · rw [Vx.upd_ne _ _ e] at hq'; exact .inl hq'⟩
  · obtain ⟨g1, g2, kr, asks, got, hr, hR, hB, hs, hok, hG⟩ := h4.rd e e0
    have hR' := RdS_grow hR sA
    rw [grow_upd h2.fa qA] at hR'
    exact ⟨g1, g2, kr, asks, got, hr, hR', hB, hs, fun m hm => (hok m hm).mono sF, fun m hm => (hG m hm).mono sF⟩
theorem name_pT (t : TS) : t.name.1.p = t.p := by
  unfold TS.name
  split
  · rfl
  · split <;> rfl
theorem answered_pT (t : TS) : t.answered.1.p = t.p := by
  unfold TS.answered
  split <;> rfl
theorem next_pT (t : TS) : t.next.1.p = t.p := by
  unfold TS.next TS.listed TS.named TS.mend TS.purge
  split
  · split
    · split
      · exact name_pT _
      · rfl
    · exact answered_pT t
  · split
    · exact name_pT _
    · split
      · split <;> rfl
      · split
        · split <;> rfl
        · exact answered_pT t
theorem goes_pT (t : TS) (r : Agr.St × List Msg) : (t.goes r).1.p = t.p := by
  unfold TS.goes
  split
  · split
    · exact next_pT _
    · rfl
  · rfl
theorem take_pT (t : TS) (m : Msg) : (t.take m).1.p = t.p := by
  unfold TS.take
  split
  · rfl
  · split
    · exact goes_pT _ _
    · split
      · rfl
      · split
        · split
          · exact next_pT (t.got m)
          · rfl
        · rfl
theorem tick_pT (t : TS) : t.tick.1.p = t.p := by
  unfold TS.tick
  split
  · rfl
  · split
    · exact goes_pT _ _
    · split
      · exact next_pT t
      · unfold TS.late
        split <;> rfl
theorem start_pT (p : Plan) (b : Int) (c : Ch) (o : Bool) : (start p b c o).1.p = p := by
  unfold start
  split
  · rfl
  · split
    · rfl
    · split
      · rfl
      · split <;> rfl
theorem TkS.agG {H0 H : PHeap} {k : Nat} {t : TS} (h : TkS H0 H k t) : t.agrees = true → t.A.G.length ≤ 256 := fun e => by
  obtain ⟨F, A, B, x, h1, h2, h3, h4⟩ := h
  obtain ⟨ka, _, hA⟩ := h4.ag e
  exact Cho.agG hA
theorem TkS.take {H0 H : PHeap} {k : Nat} {t : TS} {b : Nat} {m : Msg} (h : TkS H0 H k t) (hi : Iv b t) (hb : b + 100 ≤ 80000) (hn : t.at_ ≠ 0 → t.p.n ≤ 100) (hm : OkC H0 m) :
    Triple Tryz.prog 14 #[.pointer (at0 k), Rnd.vM m] H (OutT H0 k (t.take m)) := by
  obtain ⟨F, A, B, x, h1, h2, h3, h4⟩ := h
  exact take_okO ⟨h1, h2, h3, h4⟩ hi hb hn hm
theorem TkS.tick {H0 H : PHeap} {k : Nat} {t : TS} {b : Nat} (h : TkS H0 H k t) (hi : Iv b t) (hb : b ≤ 80000) (hn : t.at_ ≠ 0 → t.p.n ≤ 100) :
    Triple Tryz.prog 12 #[.pointer (at0 k)] H (OutT H0 k t.tick) := by
  obtain ⟨F, A, B, x, h1, h2, h3, h4⟩ := h
  exact tick_okO ⟨h1, h2, h3, h4⟩ hi hb hn
def P8 : Plan := ⟨4, 1, 2, 3, 16, 3⟩
def c8 : Ch := ⟨1, noS, 0⟩
def cMsg (j : Int) (k : Nat) : Msg := (20, j, 0, 5, ⟨#[]⟩, 0, 0, 0, 0, 1, ⟨at0 k, 1, 1, [1]⟩, ⟨none, 0, 0, []⟩, ⟨none, 0, 0, []⟩)
def cRun : List Nat → TS
  | [] => (start P8 5 c8 true).1
  | k :: ks => ((cRun ks).take (cMsg (ks.length + 1) k)).1
theorem cRun_end (k1 k2 k3 k4 : Nat) : (cRun [k4, k3, k2, k1]).at_ = 0 ∧ (cRun [k4, k3, k2, k1]).chores = [] := ⟨by kernel_rfl, by kernel_rfl⟩
theorem c8_any (o : Bool) : start P8 5 c8 o = start P8 5 c8 true := by cases o <;> rfl
theorem c8_said : ∀ (i : Nat) x, (start P8 5 c8 true).2[i]? = some x → Rnd.to_ x = (i : Int) + 1 := fun i x h => by
  have e : (start P8 5 c8 true).2 = sendL 5 (mNames noS) [1, 2, 3, 4] := by kernel_rfl
  rw [e] at h
  unfold sendL at h
  match i, h with
  | 0, h => simp at h; rw [← h]; rfl
  | 1, h => simp at h; rw [← h]; rfl
  | 2, h => simp at h; rw [← h]; rfl
  | 3, h => simp at h; rw [← h]; rfl
  | i + 4, h => simp at h
theorem c8_len : (start P8 5 c8 true).2.length = 4 := by kernel_rfl
theorem to_strip (m : Msg) : Rnd.to_ (strip m) = Rnd.to_ m := rfl
theorem alive_okO (H : PHeap) : Triple Tryz.prog 6 #[] H fun v H' => v = .bool true ∧ Sub H H' := by
  refine lawCAlive.vc H _ (l8Some.vc H _ ⟨4, 1, 2, 3, 16, 3, rfl, (start_okO (p := P8) (b := 5) (c := c8)).mono ?_⟩)
  rintro _ H10 ⟨k, w, rfl, _, hk, hF⟩
  obtain ⟨F0, hF0, ⟨b, n, c, l, rfl, hrd, _, hst⟩, hT⟩ := hF rfl (by decide)
  rw [c8_any] at hst hT
  have hn : n = 4 := by
    rw [← hrd.len, ← c8_len, ← hst, List.length_map]
  subst hn
  have hT0 : TkS F0 H10 k (cRun []) := hT
  have hI0 : Iv 0 (cRun []) := (start_iv (p := P8) (b := 5) (c := c8) (o := true)).iv
  refine ⟨at0 k, b, 4, c, rfl, fun t H' => match t with | [.int _ i] => 0 ≤ i ∧ i ≤ 4 ∧ ∃ (F : PHeap) (ks : List Nat), Sub F0 F ∧ (ks.length : Int) = i ∧ TkS F H' k (cRun ks) ∧ Iv 0 (cRun ks) ∧ (cRun ks).p = P8 | _ => False, fun t _ => match t with | [.int _ i] => (4 - i).toNat | _ => 0, ⟨by omega, by omega, F0, [], Sub.refl _, rfl, hT0, hI0, rfl⟩, ?_⟩
  rintro i H18 ⟨i0, i1, F, ks, hF, hlen, hT, hI, hP⟩
  refine ⟨fun hi => ?_, fun hi => ?_⟩
  · have hi' : i < 4 := by simpa using hi
    have hrd18 := hrd.mono (hF.trans hT.sub)
    obtain ⟨x, hx, hxr⟩ := hrd18.ex (i := i) (by omega) (by omega)
    have hto : Rnd.to_ x = (ks.length : Int) + 1 := by
      have := c8_said i.toNat (strip x) (by rw [← hst, List.getElem?_map, hx]; rfl)
      rw [to_strip] at this
      omega
    obtain ⟨y1, y2, y3, y4, y5, y6, y7, y8, y9, y10, ⟨ya, yb, yc, yl⟩, ⟨za, zb, zc, zl⟩, ⟨wa, wb, wc, wl⟩⟩ := x
    have hto' : y3 = (ks.length : Int) + 1 := hto
    refine ⟨hrd18.ob (by omega) (by omega), y1, y2, y3, y4, y5, y6, y7, y8, y9, y10, ya, yb, yc, za, zb, zc, wa, wb, wc, hxr, fun k38 hk38 => ?_⟩
    have hFk : F k38 = none := hT.sub.none hk38
    have hT' := hT.ext (o := .cells #[vI 1] 3 (0, 0)) hk38
    have hok : OkC (F.upd k38 (.cells #[vI 1] 3 (0, 0))) (cMsg ((ks.length : Int) + 1) k38) :=
      ⟨⟨Bx.rd (E := iE) (l := [1]) Rnd.iLen (Bx.new F k38 3 [vI 1]), RdL.nil _ _ _, RdL.nil _ _ _, by simp [cMsg], by simp [cMsg], by simp [cMsg]⟩, by simp [cMsg, names_]⟩
    have hG := hT'.agG
    have ht := hT'.take hI (by omega) (fun _ => by rw [hP]; decide) hok
    have hI' := take_iv (m := cMsg ((ks.length : Int) + 1) k38) hI hG
    rw [← hto'] at ht
    refine ht.mono ?_
    rintro _ H40 ⟨⟨b', n', c', _, rfl, _⟩, hT40⟩
    rw [Rnd.wrapS (by omega) (by omega)]
    refine ⟨b', n', c', rfl, ⟨by omega, by omega, _, k38 :: ks, hF.trans (Sub.upd (.cells #[vI 1] 3 (0, 0)) hFk), by rw [List.length_cons]; omega, ?_, hI'.iv, ?_⟩, ⟨by simp only; omega⟩⟩
    · rw [hto'] at hT40
      exact hT40
    · exact (take_pT _ _).trans hP
  · have hi' : ¬ i < 4 := by simpa using hi
    have hl4 : ks.length = 4 := by omega
    match ks, hl4 with
    | [k4, k3, k2, k1], _ =>
      obtain ⟨e1, e2⟩ := cRun_end k1 k2 k3 k4
      refine (done_okO hT (by rw [e2]; decide)).mono ?_
      rintro _ H45 ⟨b', n', c', rfl, hr, hs⟩
      rw [e1, e2] at hr
      have hn' : n' = 0 := hr.len.symm
      subst hn'
      refine ⟨b', 0, c', _, rfl, ?_, hF0.trans (hF.trans (hT.sub.trans hs))⟩
      rw [e1]; rfl
end Go.Cho
