/- The law AgreeEnds: the walk. -/
import Derived.Test.YthcfmcmmmpfjoaaAgrS
namespace Go.Agr
open Go.Vx Go.Vc Go.Proofs Go.Pln Go.Stl
open Go.Rnd (takesG insG froms againG RdR RV OkM AscG)

theorem made_fields (p : Plan) (b : Int) (nm : ByteArray) (fx flag : Bool) (v : Val) : (madeS p b nm fx flag v).1.tries = maxI p.r 0 ∧ (madeS p b nm fx flag v).1.fixed = fx ∧ (madeS p b nm fx flag v).1.p = p := by
  unfold madeS
  cases fx <;> exact ⟨rfl, rfl, rfl⟩
theorem maxI_pos {r : Int} (h : 0 ≤ r) : maxI r 0 = r := by
  unfold maxI
  rw [if_neg (by omega)]
theorem took_p (s : St) (m : Msg) : True := trivial
theorem ends_ok {H : PHeap} {p : Plan} {b : Int} {nm : ByteArray} {fx flag : Bool} {v : Val} {oa : Option Addr} {n c : Nat} {l : List Msg} (hl : RdL H mE 13 oa n l) (hm : ∀ x ∈ l, MsgR H x) (hn : n ≤ maxLen) :
    Triple Try.prog 4 #[p.v, .agg #[vI b, .string nm, .bool fx, .bool flag, .bool v.pr, vI v.at_, vI v.ep, vI v.sz], .slice oa n c] H fun v H' => v = .bool true ∧ Sub H H' := by
  have hll := hl.len
  have al : ∀ {G : PHeap}, Sub H G → Triple Try.prog 8 #[] G fun v H' => ∃ b, v = .bool b ∧ (Value.bool b = .bool true ∧ Sub H H') := fun hs => (alive_ok _).mono fun _ _ ⟨e, h⟩ => ⟨true, e, rfl, hs.trans h⟩
  refine lawEnds.vc p.n p.t p.l p.w p.s p.r b nm fx flag v.pr v.at_ v.ep v.sz oa n c H _ ((farL_ok hl hm hn).mono ?_)
  rintro _ H19 ⟨b20, rfl, hH, hb⟩
  rw [hH]
  refine ⟨b20, rfl, fun e1 => (refRight_ok p).use ⟨_, rfl, fun _ => al (Sub.refl _), fun e2 => ?_⟩, fun _ => al (Sub.refl _)⟩
  obtain ⟨hn2, hok⟩ := hb e1
  have hp : p.ok = true := by
    cases h : p.ok with
    | true => rfl
    | false => rw [h] at e2; simp at e2
  have pok := Plan.ok_iff.1 hp
  have r1 := pok.r1
  have r2 := pok.r2
  have hw : IntKind.i64.wrap (2 * IntKind.i64.wrap (p.r + 1)) = 2 * (p.r + 1) := by
    rw [wrap64 (n := p.r + 1) (by omega) (by omega), wrap64 (by omega) (by omega)]
  rw [hw]
  refine (made_ok (v := v) hp).mono ?_
  rintro _ H28 ⟨k, u, bb, nb, cb, b2, n2, c2, G, R, rfl, ⟨kr, hA⟩, _, hR, _, hG, _, hGs, _⟩
  obtain ⟨r, x, hu, _⟩ := hR.row
  obtain ⟨f1, f2, f3⟩ := made_fields p b nm fx flag v
  have hA28 : AgS H H28 k (madeS p b nm fx flag v).1 := ⟨kr, hA.mono hGs⟩
  have hw0 : Went 0 (madeS p b nm fx flag v).1 ∧ (madeS p b nm fx flag v).1.p = p := by
    refine ⟨.inr ?_, f3⟩
    unfold St.bd
    rw [f1, f2, f3, maxI_pos (by omega)]
    refine ⟨?_, by omega, by omega, by omega, by omega⟩
    split <;> omega
  have wend : ∀ {t : Int} {s : St}, Went t s → s.p = p → t ≥ 2 * (p.r + 1) → s.over = true := fun h hp' ht => went_end h (by rw [hp', maxI_pos (by omega)]; exact ht)
  generalize (madeS p b nm fx flag v).1 = s0 at hA28 hw0 hu
  have jp : ∀ s : St, s.judge.1.p = s.p := fun s => by
    rcases judge_cases s with ⟨hs, _⟩ | ⟨hf, u, v, hs, _, _, _, _, hj⟩
    · exact hs.p
    · rw [hj]; exact hs.p
  have tp : ∀ (s : St) (m : Msg), (s.take m).1.p = s.p := fun s m => by
    unfold St.take
    split
    · rfl
    · split
      · split
        · exact jp (s.got m)
        · rfl
      · rfl
  have kp : ∀ s : St, s.tick.1.p = s.p := fun s => by
    unfold St.tick
    split
    · rfl
    · split
      · exact jp s
      · unfold St.late
        split <;> exact jp s
  refine ⟨at0 k, _, _, _, _, _, _, _, _, _, _, _, _, _, _, _, _, _, _, _, _, _, _, _, _, _, _, _, _, _, _, _, _, _, _, _, _, _, bb, nb, cb, b2, n2, c2, by rw [hu], fun t H' => match t with | [.int _ t, .int _ i] => 0 ≤ i ∧ i ≤ n ∧ 0 ≤ t ∧ t ≤ i ∧ ∃ s, AgS H H' k s ∧ Went t s ∧ s.p = p | _ => False, fun t _ => match t with | [_, .int _ i] => (n - i).toNat | _ => 0, ⟨by omega, by omega, by omega, by omega, s0, hA28, hw0.1, hw0.2⟩, ?_⟩
  rintro t i H77 ⟨i0, i1, t0, t1, s, hAs, hW, hsp⟩
  have s77 : Sub H H77 := by
    obtain ⟨kr, hA'⟩ := hAs
    exact hA'.sub
  refine ⟨fun hi => ?_, fun hi => ?_⟩
  · have hi' : i < n := by simpa using hi
    have hl77 := hl.mono s77
    obtain ⟨y, hy, hyr⟩ := hl77.ex (i := i) (by omega) (by omega)
    have hoky := hok y (List.mem_of_getElem? hy)
    have htk := take_ok hAs hoky
    have hWt := went_take hW y
    have htp := tp s y
    rw [Rnd.wrapS (i := i) (by omega) (by omega)]
    generalize s.take y = r1' at htk hWt htp
    obtain ⟨y1, y2, y3, y4, y5, y6, y7, y8, y9, y10, ⟨ya, yb, yc, yl⟩, ⟨za, zb, zc, zl⟩, ⟨wa, wb, wc, wl⟩⟩ := y
    refine ⟨hl77.ob (by omega) (by omega), y1, y2, y3, y4, y5, y6, y7, y8, y9, y10, ya, yb, yc, za, zb, zc, wa, wb, wc, hyr, fun e3 => (tick_ok hAs).mono ?_, fun e3 => htk.mono ?_⟩
    · rintro _ H98 ⟨b1, n1, c1, rfl, _, hA98⟩
      have hW98 := went_tick hW
      have hp98 := kp s
      rw [Rnd.wrapS (i := t) (by omega) (by omega)]
      refine ⟨b1, n1, c1, rfl, (done_ok hA98).mono ?_⟩
      rintro _ H103 ⟨hH3, hv⟩
      rw [hH3]
      have fin : ∀ bo : Bool, bo = s.tick.1.over → ((bif decide (t + 1 ≥ 2 * (p.r + 1)) then !bo else false) = true → (Value.bool false = .bool true ∧ Sub H H98)) := fun bo hbo e => by
        rw [hbo] at e
        by_cases hc : t + 1 ≥ 2 * (p.r + 1)
        · rw [wend hW98 (by rw [hp98, hsp]) hc] at e; simp at e
        · rw [decide_eq_false hc] at e; simp at e
      rcases hv with ⟨ho, rfl⟩ | ⟨ho, x1, rfl, _⟩
      · exact ⟨_, _, _, _, _, _, _, _, _, _, _, _, _, _, _, _, rfl, fin _ ho.symm, fun _ => ⟨⟨by omega, by omega, by omega, by omega, _, hA98, hW98, by rw [hp98, hsp]⟩, ⟨by simp only; omega⟩⟩⟩
      · exact ⟨_, _, _, _, _, _, _, _, _, _, _, _, _, _, _, _, rfl, fin _ ho.symm, fun _ => ⟨⟨by omega, by omega, by omega, by omega, _, hA98, hW98, by rw [hp98, hsp]⟩, ⟨by simp only; omega⟩⟩⟩
    · rintro _ H121 ⟨b1, n1, c1, rfl, _, hA98⟩
      refine ⟨b1, n1, c1, rfl, (done_ok hA98).mono ?_⟩
      rintro _ H103 ⟨hH3, hv⟩
      rw [hH3]
      have fin : ∀ bo : Bool, bo = r1'.1.over → ((bif decide (t ≥ 2 * (p.r + 1)) then !bo else false) = true → (Value.bool false = .bool true ∧ Sub H H121)) := fun bo hbo e => by
        rw [hbo] at e
        by_cases hc : t ≥ 2 * (p.r + 1)
        · rw [wend hWt (by rw [htp, hsp]) hc] at e; simp at e
        · rw [decide_eq_false hc] at e; simp at e
      rcases hv with ⟨ho, rfl⟩ | ⟨ho, x1, rfl, _⟩
      · exact ⟨_, _, _, _, _, _, _, _, _, _, _, _, _, _, _, _, rfl, fin _ ho.symm, fun _ => ⟨⟨by omega, by omega, by omega, by omega, _, hA98, hWt, by rw [htp, hsp]⟩, ⟨by simp only; omega⟩⟩⟩
      · exact ⟨_, _, _, _, _, _, _, _, _, _, _, _, _, _, _, _, rfl, fin _ ho.symm, fun _ => ⟨⟨by omega, by omega, by omega, by omega, _, hA98, hWt, by rw [htp, hsp]⟩, ⟨by simp only; omega⟩⟩⟩
  · refine ⟨fun t H' => match t with | [.int _ t] => 0 ≤ t ∧ t ≤ 1000 ∧ ∃ s, AgS H H' k s ∧ Went t s ∧ s.p = p | _ => False, fun t _ => match t with | [.int _ t] => (1000 - t).toNat | _ => 0, ⟨by omega, by omega, s, hAs, hW, hsp⟩, ?_⟩
    clear hW hAs s77 hsp hi t0 t1 i0 i1 i t s
    rintro t H146 ⟨t0, t1, s, hAs, hW, hsp⟩
    refine ⟨fun hi => (tick_ok hAs).mono ?_, fun hi => (done_ok hAs).mono ?_⟩
    · have hi' : t < 2 * (p.r + 1) := by simpa using hi
      rintro _ H98 ⟨b1, n1, c1, rfl, _, hA98⟩
      rw [Rnd.wrapS (i := t) (by omega) (by omega)]
      exact ⟨b1, n1, c1, rfl, ⟨by omega, by omega, _, hA98, went_tick hW, by rw [kp s, hsp]⟩, ⟨by simp only; omega⟩⟩
    · have hi' : ¬ t < 2 * (p.r + 1) := by simpa using hi
      have hov := wend hW hsp (by omega)
      rintro _ H153 ⟨hH3, hv⟩
      rw [hH3]
      rcases hv with ⟨ho, rfl⟩ | ⟨ho, x1, rfl, _⟩
      · rw [hov] at ho; cases ho
      · refine ⟨_, _, _, _, _, _, _, _, _, _, _, _, _, _, _, _, rfl, (done_nil _).mono ?_⟩
        rintro _ H171 ⟨hH4, rfl⟩
        rw [hH4]
        refine ⟨_, _, _, _, _, _, _, _, _, _, _, _, _, _, _, _, rfl, fun _ => (tick_ok hAs).mono ?_, fun e => by cases e⟩
        rintro _ H189 ⟨b1, n1, c1, rfl, hrd, hA189⟩
        rw [tick_over hov] at hrd
        have hn1 : n1 = 0 := hrd.len.symm
        have s189 : Sub H H189 := by
          obtain ⟨kr, hA'⟩ := hA189
          exact hA'.sub
        subst hn1
        refine ⟨b1, 0, c1, rfl, fun _ => ⟨fun _ => (tick_nil _).mono ?_, fun e => by cases e⟩, fun e => by cases e⟩
        rintro _ H194 ⟨rfl, hH5⟩
        rw [hH5]
        refine ⟨none, 0, 0, rfl, (take_nil _ Rnd.z0).mono ?_⟩
        rintro _ H199 ⟨rfl, hH6⟩
        rw [hH6]
        exact ⟨none, 0, 0, rfl, fun _ => al s189, fun e => by cases e⟩
end Go.Agr
