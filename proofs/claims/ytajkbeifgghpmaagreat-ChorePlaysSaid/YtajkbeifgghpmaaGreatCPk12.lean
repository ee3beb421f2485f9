/- The document's choices, and whether a blob is gone. · A chore in plain words: its state, its steps, and what is so of them. No program is in sight. · A chore's state stays as it ought to be. · What is to be shown of each function, in its normal form.  -/
import Derived.Test.YtajkbeifgghpmaaGreatProg
import Derived.Test.YtajkbeifgghpmaaGreatCPk11
set_option linter.unusedVariables false
set_option maxRecDepth 100000
namespace Go.Cho
open Go.Vx Go.Vc Go.Proofs Go.Pln Go.Stl Go.Agr
open Go.Hp (rest_ok restL restL_spec restL_len Asc asc_ext has_ok refRest_ok)
open Go.Rnd (takesG insG froms againG OkM AscG)
theorem idsN_filter (q : Int → Bool) (j : Nat) : (idsN (j + 1)).filter q = (idsN j).filter q ++ if q ((j : Int) + 1) then [(j : Int) + 1] else [] := by
  rw [idsN_succ, List.filter_append]
  congr 1
  cases h : q ((j : Int) + 1) <;> simp [h]
theorem idsN_pre (q : Int → Bool) {i j : Nat} (h : i ≤ j) : ∃ r, (idsN j).filter q = (idsN i).filter q ++ r := by
  induction j with
  | zero => exact ⟨[], by rw [show i = 0 by omega]; simp⟩
  | succ j ih =>
    by_cases e : i = j + 1
    · exact ⟨[], by rw [e]; simp⟩
    · obtain ⟨r, hr⟩ := ih (by omega)
      exact ⟨_, by rw [idsN_filter, hr, List.append_assoc]⟩
theorem least_ok {H : PHeap} {p : Plan} {oa : Option Addr} {n c : Nat} {h : List Int} {but : Int} {k : Int} (hp : p.ok = true) (hl : RdL H iE 1 oa n h) (hn : n ≤ 100000) (h0 : 0 ≤ k) :
    Triple Tryz.prog 146 #[p.v, .slice oa n c, vI but, vI k] H fun v H' => ∃ b m q ok, v = .tuple #[.slice b m q, .bool ok] ∧ ok = decide (k ≤ (thoseL p h but).length) ∧ RdL H' iE 1 b m (if ok then (thoseL p h but).take k.toNat else []) ∧ m ≤ q ∧ Sub H H' := by
  have pok := Plan.ok_iff.1 hp
  have p1 := pok.n1
  have p2 := pok.n2
  have key : thoseL p h but = (idsN p.n.toNat).filter fun j => decide (j ∈ h) && decide (j ≠ but) := rfl
  refine refLeast.vc p.n p.t p.l p.w p.s p.r oa n c but k H _ ⟨fun t H' => match t with | [.slice b m q, .int _ i] => 1 ≤ i ∧ i ≤ p.n + 1 ∧ OwnL H' 3 iE 1 b m q ((idsN (i.toNat - 1)).filter fun j => decide (j ∈ h) && decide (j ≠ but)) ∧ (m : Int) ≤ k ∧ Sub H H' ∧ Off H b | _ => False, fun t _ => match t with | [_, .int _ i] => (p.n + 1 - i).toNat | _ => 0, ⟨by omega, by omega, Owns.nil _ _ 1, by omega, Sub.refl _, Off.none _⟩, ?_⟩
  rintro b m q i H18 ⟨i0, i1, ho, hmk, hs, hoff⟩
  obtain ⟨i, rfl⟩ : ∃ j : Nat, i = (j : Int) + 1 := ⟨i.toNat - 1, by omega⟩
  rw [show ((i : Int) + 1).toNat - 1 = i by omega] at ho
  have hr := ho.rd (E := iE) (sz := 1) (by omega) Rnd.iLen
  have hml := hr.len
  have hle : ((idsN i).filter fun j => decide (j ∈ h) && decide (j ≠ but)).length ≤ i := Nat.le_trans (List.length_filter_le ..) (by rw [idsN_len]; exact Nat.le_refl _)
  have hsn := idsN_filter (fun j => decide (j ∈ h) && decide (j ≠ but)) i
  have e1 : ((i : Int) + 1 + 1).toNat - 1 = i + 1 := by omega
  refine ⟨fun e => ?_, fun e => ?_⟩
  · have hin : (i : Int) + 1 ≤ p.n ∧ (m : Int) < k := by
      by_cases h1 : (i : Int) + 1 ≤ p.n
      · simp [h1] at e; exact ⟨h1, e⟩
      · simp [h1] at e
    have w1 : IntKind.i64.wrap ((i : Int) + 1 + 1) = (i : Int) + 1 + 1 := Rnd.wrapS (by omega) (by omega)
    have less : Less ((p.n + 1 - ((i : Int) + 1 + 1)).toNat) ((p.n + 1 - ((i : Int) + 1)).toNat) := ⟨by omega⟩
    rw [w1]
    refine ⟨fun e2 => (has_ok (x := (i : Int) + 1) (hl.mono hs) (by omega)).mono ?_, fun e2 => ⟨⟨by omega, by omega, ?_, hmk, hs, hoff⟩, less⟩⟩
    · rintro _ H20 ⟨rfl, hH⟩
      rw [hH]
      have hne : (i : Int) + 1 ≠ but := by simpa using e2
      refine ⟨_, rfl, fun e3 k22 hk22 => ?_, fun e3 => ⟨⟨by omega, by omega, ?_, hmk, hs, hoff⟩, less⟩⟩
      · have hin2 : (i : Int) + 1 ∈ h := by simpa using e3
        refine append_one Rnd.tI (E := iE) (x := (i : Int) + 1) hk22 Rnd.iLen ho rfl (Rnd.iOne _) (by simp [maxLen]; omega) (by omega) ?_
        intro b' q' H' how hf hfr _
        refine ⟨b', m + 1, q', rfl, ⟨by omega, by omega, ?_, by omega, hf.sub hs hoff, hfr.off hs hoff⟩, less⟩
        rw [e1, hsn, if_pos (by simp [hin2, hne])]; exact how
      · have hin2 : (i : Int) + 1 ∉ h := by simpa using e3
        rw [e1, hsn, if_neg (by simp [hin2]), List.append_nil]; exact ho
    · have he : (i : Int) + 1 = but := by simpa using e2
      rw [e1, hsn, if_neg (by simp [he]), List.append_nil]; exact ho
  · have hcase : ¬ ((i : Int) + 1 ≤ p.n) ∨ ¬ ((m : Int) < k) := by
      by_cases h1 : (i : Int) + 1 ≤ p.n
      · simp [h1] at e; exact .inr (by omega)
      · exact .inl h1
    refine ⟨fun e2 => ?_, fun e2 => ?_⟩
    · have hlt : (m : Int) < k := by simpa using e2
      have hi : i = p.n.toNat := by omega
      rw [hi, ← key] at hml
      refine ⟨none, 0, 0, false, rfl, (decide_eq_false (by omega)).symm, RdL.nil _ _ _, Nat.le_refl _, hs⟩
    · have hmk2 : (m : Int) = k := by have : ¬ (m : Int) < k := by simpa using e2
                                      omega
      obtain ⟨r, hrr⟩ := idsN_pre (fun j => decide (j ∈ h) && decide (j ≠ but)) (i := i) (j := p.n.toNat) (by omega)
      rw [← key] at hrr
      have htk : (thoseL p h but).take k.toNat = (idsN i).filter fun j => decide (j ∈ h) && decide (j ≠ but) := by
        rw [hrr, show k.toNat = ((idsN i).filter fun j => decide (j ∈ h) && decide (j ≠ but)).length by omega, List.take_left]
      refine ⟨b, m, q, true, rfl, (decide_eq_true ?_).symm, ?_, ho.le, hs⟩
      · rw [hrr, List.length_append]; omega
      · rw [if_pos rfl, htk]; exact hr
theorem refHelpers_ok {H : PHeap} {p : Plan} {oa : Option Addr} {n c : Nat} {h : List Int} {i : Int} (hp : p.ok = true) (hl : RdL H iE 1 oa n h) (hn : n ≤ 100000) :
    Triple Tryz.prog 111 #[p.v, .slice oa n c, vI i] H fun v H' => ∃ b m q ok, v = .tuple #[.slice b m q, .bool ok] ∧ ok = (helpL p h i).isSome ∧ RdL H' iE 1 b m ((helpL p h i).getD []) ∧ m ≤ q ∧ Sub H H' := by
  have pok := Plan.ok_iff.1 hp
  have t1 := pok.t1; have l1 := pok.l1; have t2 := pok.t2; have l2 := pok.l2
  have his : isP p i = decide (1 ≤ i ∧ i ≤ p.n) := by unfold isP; rw [hp]; rfl
  refine refHelpers.vc p.n p.t p.l p.w p.s p.r oa n c i H _ ((refRight_ok p).use ⟨_, rfl, fun _ => (refIs_ok p i).use ⟨_, rfl, fun e => ?_, fun e => ?_⟩, fun e => by rw [hp] at e; cases e⟩)
  · have e' : isP p i = false := by rw [his]; simp at e ⊢; omega
    have : helpL p h i = none := by unfold helpL; rw [e']; rfl
    rw [this]
    exact ⟨none, 0, 0, false, rfl, rfl, RdL.nil _ _ _, Nat.le_refl _, Sub.refl _⟩
  · have e' : isP p i = true := by rw [his]; simp at e ⊢; omega
    rw [wrap64 (n := p.t + p.l) (by omega) (by omega)]
    refine (least_ok (but := i) (k := p.t + p.l) hp hl hn (by omega)).mono ?_
    rintro _ H18 ⟨b, m, q, ok, rfl, hok, hr, hmq, hs⟩
    refine ⟨b, m, q, ok, rfl, b, m, q, ok, rfl, ?_, ?_, hmq, hs⟩
    · unfold helpL; rw [e', ← hok, Bool.true_and]; cases ok <;> rfl
    · unfold helpL; rw [e', ← hok, Bool.true_and]; cases ok <;> exact hr
theorem refTargets_ok {H : PHeap} {p : Plan} {oa : Option Addr} {n c : Nat} {h : List Int} (hp : p.ok = true) (hl : RdL H iE 1 oa n h) (hn : n ≤ 100000) :
    Triple Tryz.prog 110 #[p.v, .slice oa n c] H (GivesI (targL p h) H) := by
  have pok := Plan.ok_iff.1 hp
  have p1 := pok.n1
  have p2 := pok.n2
  have key : targL p h = (idsN p.n.toNat).filter fun j => !decide (j ∈ h) := rfl
  refine refTargets.vc p.n p.t p.l p.w p.s p.r oa n c H _ ⟨fun t H' => match t with | [.slice b m q, .int _ i] => 1 ≤ i ∧ i ≤ p.n + 1 ∧ OwnL H' 3 iE 1 b m q ((idsN (i.toNat - 1)).filter fun j => !decide (j ∈ h)) ∧ Sub H H' ∧ Off H b | _ => False, fun t _ => match t with | [_, .int _ i] => (p.n + 1 - i).toNat | _ => 0, ⟨by omega, by omega, Owns.nil _ _ 1, Sub.refl _, Off.none _⟩, ?_⟩
  rintro b m q i H18 ⟨i0, i1, ho, hs, hoff⟩
  obtain ⟨i, rfl⟩ : ∃ j : Nat, i = (j : Int) + 1 := ⟨i.toNat - 1, by omega⟩
  rw [show ((i : Int) + 1).toNat - 1 = i by omega] at ho
  have hr := ho.rd (E := iE) (sz := 1) (by omega) Rnd.iLen
  have hml := hr.len
  have hle : ((idsN i).filter fun j => !decide (j ∈ h)).length ≤ i := Nat.le_trans (List.length_filter_le ..) (by rw [idsN_len]; exact Nat.le_refl _)
  have hsn := idsN_filter (fun j => !decide (j ∈ h)) i
  have e1 : ((i : Int) + 1 + 1).toNat - 1 = i + 1 := by omega
  refine (refRight_ok p).use ⟨_, rfl, fun e => ?_, fun e => ?_⟩
  · have hin : (i : Int) + 1 ≤ p.n := by rw [hp] at e; simpa using e
    have w1 : IntKind.i64.wrap ((i : Int) + 1 + 1) = (i : Int) + 1 + 1 := Rnd.wrapS (by omega) (by omega)
    have less : Less ((p.n + 1 - ((i : Int) + 1 + 1)).toNat) ((p.n + 1 - ((i : Int) + 1)).toNat) := ⟨by omega⟩
    rw [w1]
    refine (has_ok (x := (i : Int) + 1) (hl.mono hs) (by omega)).mono ?_
    rintro _ H20 ⟨rfl, hH⟩
    rw [hH]
    refine ⟨_, rfl, fun e3 k22 hk22 => ?_, fun e3 => ⟨⟨by omega, by omega, ?_, hs, hoff⟩, less⟩⟩
    · have hin2 : (i : Int) + 1 ∉ h := by simpa using e3
      refine append_one Rnd.tI (E := iE) (x := (i : Int) + 1) hk22 Rnd.iLen ho rfl (Rnd.iOne _) (by simp [maxLen]; omega) (by omega) ?_
      intro b' q' H' how hf hfr _
      refine ⟨b', m + 1, q', rfl, ⟨by omega, by omega, ?_, hf.sub hs hoff, hfr.off hs hoff⟩, less⟩
      rw [e1, hsn, if_pos (by simp [hin2])]; exact how
    · have hin2 : (i : Int) + 1 ∈ h := by simpa using e3
      rw [e1, hsn, if_neg (by simp [hin2]), List.append_nil]; exact ho
  · have hin : ¬ (i : Int) + 1 ≤ p.n := by rw [hp] at e; simpa using e
    rw [show i = p.n.toNat by omega, ← key] at ho
    exact ⟨b, m, q, rfl, ho, hs, hoff⟩
def toldM (m : Rnd.Msg) : Bool := kind_ m == 14
def someM (m : Rnd.Msg) : Bool := what_ m != 0
def goneL (p : Plan) (L : List Rnd.Msg) : Bool := p.ok && decide (p.n ≤ (cntM toldM L : Int)) && decide (0 < cntM (fun m => toldM m && someM m) L)
theorem sGone_ok {H : PHeap} {p : Plan} {oa : Option Addr} {n c : Nat} {L : List Rnd.Msg} (hl : RdL H mE 13 oa n L) (hn : n ≤ 100000) :
    Triple Tryz.prog 157 #[p.v, .slice oa n c] H fun v H' => v = .bool (goneL p L) ∧ Sub H H' := by
  have c1 : ∀ (x : Rnd.Msg) (G : PHeap) (Q : Value → PHeap → Prop), Q (.bool (toldM x)) G → CallY Tryz.prog (.func (Fn.func 179) #[] #[]) #[Stl.vM x] G Q := fun x G Q h => by
    obtain ⟨y1, y2, y3, y4, y5, y6, y7, y8, y9, y10, ⟨ya, yb, yc, yl⟩, ⟨za, zb, zc, zl⟩, ⟨wa, wb, wc, wl⟩⟩ := x
    exact CallY.fn (by kernel_rfl) (sGone1.vc y1 y2 y3 y4 y5 y6 y7 y8 y9 y10 ya yb yc za zb zc wa wb wc G Q h)
  have c2 : ∀ (x : Rnd.Msg) (G : PHeap) (Q : Value → PHeap → Prop), Q (.bool (someM x)) G → CallY Tryz.prog (.func (Fn.func 180) #[] #[]) #[Stl.vM x] G Q := fun x G Q h => by
    obtain ⟨y1, y2, y3, y4, y5, y6, y7, y8, y9, y10, ⟨ya, yb, yc, yl⟩, ⟨za, zb, zc, zl⟩, ⟨wa, wb, wc, wl⟩⟩ := x
    exact CallY.fn (by kernel_rfl) (sGone2.vc y1 y2 y3 y4 y5 y6 y7 y8 y9 y10 ya yb yc za zb zc wa wb wc G Q h)
  refine sGone.vc p.n p.t p.l p.w p.s p.r oa n c H _ ⟨H, Sub.refl _, (right_ok p).use ⟨_, rfl, Sub.refl _, fun e k14 hk14 => ?_, fun e => ⟨?_, Sub.refl _⟩⟩⟩
  · have s14 := Sub.upd (.cells #[Value.func (Fn.func 179) #[] #[]] 91 (0, 0)) hk14
    have f14 := fsRd (Bx.new H k14 91 [Value.func (Fn.func 179) #[] #[]])
    refine ⟨s14, (count_ok (ps := [toldM]) (hl.mono s14) f14 rfl hn (by simp) fun i f q h1 h2 x _ Q hQ => ?_).mono ?_⟩
    · match i, h1, h2 with
      | 0, h1, h2 => simp at h1 h2; subst h1 h2; exact c1 x _ Q hQ
      | i + 1, h1, h2 => simp at h1
    rintro _ H16 ⟨rfl, hH⟩
    rw [hH]
    have e1 : cntM (fun x => [toldM].all fun p => p x) L = cntM toldM L := by unfold cntM; congr 1; exact List.filter_congr fun x _ => by simp
    rw [e1]
    refine ⟨_, rfl, s14, fun e2 k18 hk18 => ?_, fun e2 => ⟨?_, s14⟩⟩
    · have s18 := Sub.upd (.cells #[Value.func (Fn.func 179) #[] #[], Value.func (Fn.func 180) #[] #[]] 91 (0, 0)) hk18
      have f18 := fsRd (Bx.new (H.upd k14 (.cells #[Value.func (Fn.func 179) #[] #[]] 91 (0, 0))) k18 91 [Value.func (Fn.func 179) #[] #[], Value.func (Fn.func 180) #[] #[]])
      refine (count_ok (ps := [toldM, someM]) ((hl.mono s14).mono s18) f18 rfl hn (by simp) fun i f q h1 h2 x _ Q hQ => ?_).mono ?_
      · match i, h1, h2 with
        | 0, h1, h2 => simp at h1 h2; subst h1 h2; exact c1 x _ Q hQ
        | 1, h1, h2 => simp at h1 h2; subst h1 h2; exact c2 x _ Q hQ
        | i + 2, h1, h2 => simp at h1
      rintro _ H20 ⟨rfl, hH⟩
      rw [hH]
      have e3 : cntM (fun x => [toldM, someM].all fun p => p x) L = cntM (fun m => toldM m && someM m) L := by unfold cntM; congr 1; exact List.filter_congr fun x _ => by simp
      rw [e3]
      refine ⟨_, rfl, ?_, s14.trans s18⟩
      have hge : p.n ≤ (cntM toldM L : Int) := by simpa using e2
      unfold goneL
      rw [e, decide_eq_true hge]
      simp
    · have hge : ¬ p.n ≤ (cntM toldM L : Int) := by simpa using e2
      unfold goneL
      rw [decide_eq_false hge]
      simp
  · have e' : p.ok = false := by simpa using e
    unfold goneL
    rw [e']; rfl
theorem rGone_ok {H : PHeap} {p : Plan} {oa : Option Addr} {n c : Nat} {L : List Rnd.Msg} (hl : RdL H mE 13 oa n L) (hn : n ≤ 100000) :
    Triple Tryz.prog 112 #[p.v, .slice oa n c] H fun v H' => v = .bool (goneL p L) ∧ H' = H := by
  have hll := hl.len
  refine rGone.vc p.n p.t p.l p.w p.s p.r oa n c H _ ⟨fun t H' => match t with | [.int _ x, .int _ y, .int _ i] => 0 ≤ i ∧ i ≤ n ∧ H' = H ∧ x = (cntM toldM (L.take i.toNat) : Nat) ∧ y = (cntM (fun m => toldM m && someM m) (L.take i.toNat) : Nat) | _ => False, fun t _ => match t with | [_, _, .int _ i] => (n - i).toNat | _ => 0, ⟨by omega, by omega, rfl, by simp [cntM], by simp [cntM]⟩, ?_⟩
  rintro x y i H15 ⟨i0, i1, hH, rfl, rfl⟩
  obtain rfl := hH.symm
  obtain ⟨i, rfl⟩ : ∃ j : Nat, i = j := ⟨i.toNat, by omega⟩
  rw [Int.toNat_natCast]
  have hc1 := cnt_le toldM (L.take i)
  have hc2 := cnt_le (fun m => toldM m && someM m) (L.take i)
  rw [List.length_take] at hc1 hc2
  refine ⟨fun hi => ?_, fun hi => ?_⟩
  · have hi' : i < n := by simpa using hi
    obtain ⟨z, hz, hzr⟩ := hl.ex (i := (i : Int)) (by omega) (by omega)
    rw [Int.toNat_natCast] at hz
    have htk : L.take (i + 1) = L.take i ++ [z] := by rw [List.take_add_one, hz]; rfl
    have s1 := cnt_snoc toldM (L.take i) z
    have s2 := cnt_snoc (fun m => toldM m && someM m) (L.take i) z
    rw [← htk] at s1 s2
    have w1 : IntKind.i64.wrap ((i : Int) + 1) = (i : Int) + 1 := Rnd.wrapS (by omega) (by omega)
    have e1 : ((i : Int) + 1).toNat = i + 1 := by omega
    have less : Less ((n - ((i : Int) + 1)).toNat) ((n - (i : Int)).toNat) := ⟨by omega⟩
    rw [w1]
    refine ⟨hl.ob (by omega) (by omega), ⟨hl.elem_ne (by omega) (by omega)⟩, kind_ z, Page.fldM (j := 0) hzr rfl, fun e => ⟨⟨by omega, by omega, rfl, ?_, ?_⟩, less⟩, fun e => ⟨hl.ob (by omega) (by omega), ⟨hl.elem_ne (by omega) (by omega)⟩, what_ z, Page.fldM (j := 9) hzr rfl, ⟨by omega, by omega, rfl, ?_, ?_⟩, less⟩⟩
    · have : toldM z = false := by unfold toldM; simpa [bne] using e
      rw [e1, s1, this]; simp
    · have : toldM z = false := by unfold toldM; simpa [bne] using e
      rw [e1, s2, this]; simp
    · have : toldM z = true := by unfold toldM; simpa [bne] using e
      rw [e1, s1, this, Rnd.wrapS (by omega) (by omega)]; simp
    · have : toldM z = true := by unfold toldM; simpa [bne] using e
      rw [e1, s2, this, Rnd.wrapS (by omega) (by omega)]
      show _ = ((cntM _ _ + if (true && (what_ z != 0)) = true then 1 else 0 : Nat) : Int)
      cases h : what_ z != 0 <;> simp
  · have hi' : ¬ i < n := by simpa using hi
    rw [List.take_of_length_le (by omega)]
    refine (refRight_ok p).use ⟨_, rfl, ?_, rfl⟩
    unfold goneL
    cases p.ok
    · rfl
    · by_cases h1 : p.n ≤ (cntM toldM L : Int)
      · simp [h1]
      · simp [h1]
end Go.Cho
namespace Go.Cho
open Go.Vx Go.Vc Go.Proofs Go.Pln Go.Stl Go.Agr
open Go.Hp (rest_ok restL restL_spec restL_len Asc asc_ext has_ok refRest_ok)
open Go.Rnd (takesG insG froms againG OkM AscG)
open Go.Page (limL namesL susL cntL sumN names_ noS)
abbrev Msg := Rnd.Msg
structure Ch where
  k : Int
  nm : ByteArray
  tg : Int
structure TS where
  p : Plan
  ballot : Int
  c : Ch
  at_ : Int
  A : Agr.St
  asks : List Msg
  wait : List Int
  G : List Msg
  tries : Int
  askN : ByteArray
  askW : List Int
  pn : List ByteArray
  after : ByteArray
  ps : List Int
  names : List ByteArray
  sus : List Int
  chores : List Ch
/-- A list without its place. -/
def bareS {α : Type} (l : List α) : Sl α := ⟨none, l.length, 0, l⟩
/-- A message without the places of its lists. -/
def strip (m : Msg) : Msg := (m.1, m.2.1, m.2.2.1, m.2.2.2.1, m.2.2.2.2.1, m.2.2.2.2.2.1, m.2.2.2.2.2.2.1, m.2.2.2.2.2.2.2.1, m.2.2.2.2.2.2.2.2.1, m.2.2.2.2.2.2.2.2.2.1, bareS m.2.2.2.2.2.2.2.2.2.2.1.l, bareS m.2.2.2.2.2.2.2.2.2.2.2.1.l, bareS m.2.2.2.2.2.2.2.2.2.2.2.2.l)
abbrev no3 : Sl Int × Sl ByteArray × Sl Int := (⟨none, 0, 0, []⟩, ⟨none, 0, 0, []⟩, ⟨none, 0, 0, []⟩)
def mNames (after : ByteArray) : Msg := (6, 0, 0, 0, after, 0, 0, 0, 0, 0, no3)
def mJoin : Msg := (7, 0, 0, 0, ⟨#[]⟩, 0, 0, 0, 0, 0, no3)
def mPurge (nm : ByteArray) : Msg := (8, 0, 0, 0, nm, 0, 0, 0, 0, 0, no3)
def mHelp (nm : ByteArray) (v : Val) (tg : Int) (who : Sl Int) : Msg := (10, 0, 0, 0, nm, v.at_, v.ep, tg, v.sz, 0, who, ⟨none, 0, 0, []⟩, ⟨none, 0, 0, []⟩)
def sendL (b : Int) (m : Msg) (to : List Int) : List Msg := to.map fun i => (m.1, m.2.1, i, b, m.2.2.2.2)
def TS.over (t : TS) : TS := { t with at_ := 0 }
def TS.agree (t : TS) (nm : ByteArray) (force : Bool) (at' : Int) : TS × List Msg :=
  ({ t with A := ((init0 t.p t.ballot nm force false (IntKind.i64.wrap (2 * t.ballot))).ask mask).1, at_ := at' }, ((init0 t.p t.ballot nm force false (IntKind.i64.wrap (2 * t.ballot))).ask mask).2)
def TS.round (t : TS) (at' : Int) (m : Msg) (to wait : List Int) : TS × List Msg :=
  ({ t with at_ := at', asks := sendL t.ballot m to, wait := wait, G := [], tries := maxI t.p.r 0, askN := m.2.2.2.2.1, askW := m.2.2.2.2.2.2.2.2.2.2.1.l }, sendL t.ballot m to)
def TS.name (t : TS) : TS × List Msg :=
  match t.names with
  | nm :: _ => t.agree nm (!t.ps.isEmpty) 2
  | [] => if t.sus.isEmpty then (t.over, []) else t.round 3 mJoin t.sus t.sus
def newC (p : Plan) (nm : ByteArray) (A : Agr.St) : List Ch :=
  if A.value.pr then ((targL p A.holders).filter fun i => (helpL p A.holders i).isSome).map fun i => ⟨2, nm, i⟩
  else if goneL p A.said then [⟨3, nm, 0⟩] else []
def TS.behind (t : TS) : TS := { t with names := t.names.tail, sus := if t.A.fixed then t.sus.filter (fun i => decide (i ∈ t.A.acks)) else t.sus, chores := t.chores ++ newC t.p (t.names.headD noS) t.A }
def TS.named (t : TS) : TS × List Msg := t.behind.name
def TS.mend (t : TS) : TS × List Msg :=
  if t.A.value.pr && (helpL t.p t.A.holders t.c.tg).isSome && !decide (t.c.tg ∈ t.A.holders) then
    t.round 5 (mHelp t.c.nm t.A.value t.c.tg (bareS ((helpL t.p t.A.holders t.c.tg).getD []))) (restL ((helpL t.p t.A.holders t.c.tg).getD [] ++ [t.c.tg]) []) [t.c.tg]
  else (t.over, [])
def TS.purge (t : TS) : TS × List Msg :=
  if t.A.value.pr || decide ((t.A.acks.length : Int) < t.p.n) then (t.over, []) else t.round 7 (mPurge t.c.nm) (ids t.p) (ids t.p)
def TS.answered (t : TS) : TS × List Msg := if allG t.wait t.G then (t.over, []) else (t, [])
def listL (G : List Msg) : List Msg := G.filter fun m => kind_ m == 20
def enoughB (t : TS) : Bool := t.p.ok && decide ((cntL t.G : Int) ≥ t.p.n - t.p.w + 1)
def TS.turned (t : TS) : TS := { t with pn := namesL (limL (listL t.G)) t.pn (listL t.G), after := if (limL (listL t.G)).1 then t.after else (limL (listL t.G)).2, ps := susL t.ps (listL t.G) }
def TS.listed (t : TS) : TS × List Msg :=
  if enoughB t then
    if (limL (listL t.G)).1 then TS.name { t.turned with names := t.turned.pn, sus := t.turned.ps }
    else t.turned.round 1 (mNames t.turned.after) (ids t.p) (ids t.p)
  else t.answered
def TS.next (t : TS) : TS × List Msg :=
  if t.at_ = 1 then t.listed else if t.at_ = 2 then t.named else if t.at_ = 4 then t.mend else if t.at_ = 6 then t.purge else t.answered
def TS.goes (t : TS) (r : Agr.St × List Msg) : TS × List Msg :=
  if r.1.over then (if r.1.ok then TS.next { t with A := r.1 } else (TS.over { t with A := r.1 }, [])) else ({ t with A := r.1 }, r.2)
def TS.agrees (t : TS) : Bool := t.at_ == 2 || t.at_ == 4 || t.at_ == 6
def TS.takes (t : TS) (m : Msg) : Bool :=
  m.2.2.2.1 == t.ballot && eqS m.2.2.2.2.1 t.askN &&
    (if t.at_ = 1 then kind_ m == 20 else if t.at_ = 3 then kind_ m == 21 else if t.at_ = 5 then kind_ m == 25 else kind_ m == 22 || (kind_ m == 19 && what_ m == 8))
def TS.refuses (t : TS) (m : Msg) : Bool :=
  t.at_ == 5 && (kind_ m == 16 || kind_ m == 19 || kind_ m == 24) && what_ m == 10 && m.2.2.2.1 == t.ballot && eqS m.2.2.2.2.1 t.askN && (decide (from_ m ∈ t.askW) || from_ m == t.c.tg)
def TS.got (t : TS) (m : Msg) : TS := { t with G := insG t.G m }
def TS.take (t : TS) (m : Msg) : TS × List Msg :=
  if t.at_ = 0 then (t, []) else if t.agrees then t.goes (t.A.take m) else if t.refuses m then (t.over, [])
  else if t.takes m && takesG t.wait t.G m then (if allG t.wait (insG t.G m) then (t.got m).next else (t.got m, [])) else (t, [])
def TS.told (t : TS) : Bool := (t.at_ == 1 && enoughB t) || allG t.wait t.G
def TS.late (t : TS) : TS × List Msg := if t.tries = 0 then (t.over, []) else ({ t with tries := IntKind.i64.wrap (t.tries - 1) }, againG t.asks t.G)
def TS.tick (t : TS) : TS × List Msg :=
  if t.at_ = 0 then (t, []) else if t.agrees then t.goes t.A.tick else if t.told then t.next else t.late
def start0 (p : Plan) (b : Int) (c : Ch) : TS := ⟨p, b, c, 0, init0 p b ⟨#[]⟩ false false 0, [], [], [], 0, ⟨#[]⟩, [], [], noS, [], [], [], []⟩
def start (p : Plan) (b : Int) (c : Ch) (nameOk : Bool) : TS × List Msg :=
  if !p.ok || (c.k != 1 && !nameOk) then (start0 p b c, [])
  else if c.k = 1 then (start0 p b c).round 1 (mNames noS) (ids p) (ids p)
  else if c.k = 2 then (start0 p b c).agree c.nm true 4
  else if c.k = 3 then (start0 p b c).agree c.nm true 6
  else (start0 p b c, [])
/-- What came: its lists are read, and they are short. -/
structure OkC (F : PHeap) (m : Msg) : Prop where
  ok : OkM F m
  nm : (names_ m).n ≤ 100
theorem OkC.mono {F F' : PHeap} {m : Msg} (h : OkC F m) (hs : Sub F F') : OkC F' m := ⟨h.ok.mono hs, h.nm⟩
theorem OkC.p {F : PHeap} {m : Msg} (h : OkC F m) : Page.OkP F m := ⟨h.ok.who, h.ok.names, by have := h.nm; show (names_ m).n ≤ 300; omega⟩
structure Core (t : TS) : Prop where
  win : ∀ i ∈ t.wait, i ∈ ids t.p
  wl : t.wait.length ≤ 256
  gin : ∀ m ∈ t.G, from_ m ∈ t.wait
  asc : AscG t.G
  psa : Asc t.ps
  psi : ∀ i ∈ t.ps, i ∈ ids t.p
  sua : Asc t.sus
  sui : ∀ i ∈ t.sus, i ∈ ids t.p
  aw : t.askW.length ≤ 256
  al : t.asks.length ≤ 256
  ast : t.asks.map strip = t.asks
structure Iv (b : Nat) (t : TS) : Prop where
  core : Core t
  pok : t.at_ ≠ 0 → t.p.ok = true
  at1 : t.at_ ≠ 1 → t.chores.length + 256 * t.names.length ≤ 256 * b
  at1' : t.at_ = 1 → t.chores = [] ∧ t.names = [] ∧ t.pn.length + sumN t.G ≤ b
  at2 : t.at_ = 2 → t.names ≠ []
  ap : t.agrees = true → t.A.p = t.p ∧ t.A.over = false ∧ Sml t.A
  rng : 0 ≤ t.at_ ∧ t.at_ ≤ 7
/-- What a step leaves and says. -/
structure IvR (b : Nat) (r : TS × List Msg) : Prop where
  iv : Iv b r.1
  len : r.2.length ≤ 1000
  str : r.2.map strip = r.2
theorem asc_ids {p : Plan} (hp : p.ok = true) {l : List Int} (ha : Asc l) (hi : ∀ i ∈ l, i ∈ ids p) : l.length ≤ 256 := by
  have pok := Plan.ok_iff.1 hp
  have := pok.n1
  have := pok.n2
  have := asc_len l 0 p.n (by omega) ha fun x hx => ids_mem (hi x hx)
  omega
end Go.Cho
namespace Go.Cho
open Go.Vx Go.Vc Go.Proofs Go.Pln Go.Stl Go.Agr
open Go.Hp (rest_ok restL restL_spec restL_len Asc asc_ext has_ok refRest_ok)
open Go.Rnd (takesG insG froms againG OkM AscG)
open Go.Page (limL namesL susL susStep cntL sumN names_ noS stateL)
theorem strip_bare {m : Msg} (h : Bare m) : strip m = m := by
  obtain ⟨y1, y2, y3, y4, y5, y6, y7, y8, y9, y10, w, n, d⟩ := m
  obtain ⟨h1, h2, h3⟩ := h
  dsimp only at h1 h2 h3
  subst h1 h2 h3
  rfl
theorem strip_bares {l : List Msg} (h : ∀ m ∈ l, Bare m) : l.map strip = l := by
  conv => rhs; rw [← List.map_id l]
  exact List.map_congr_left fun m hm => strip_bare (h m hm)
theorem sendL_len (b : Int) (m : Msg) (to : List Int) : (sendL b m to).length = to.length := by unfold sendL; rw [List.length_map]
theorem strip_send (b : Int) (m : Msg) (to : List Int) : (sendL b m to).map strip = sendL b (strip m) to := by
  unfold sendL
  rw [List.map_map]
  rfl
theorem Core.core {t u : TS} (h : Core t) (e1 : u.p = t.p) (e2 : u.wait = t.wait) (e3 : u.G = t.G) (e4 : u.ps = t.ps) (e5 : u.sus = t.sus) (e6 : u.askW = t.askW) (e7 : u.asks = t.asks) : Core u := by
  refine ⟨?_, ?_, ?_, ?_, ?_, ?_, ?_, ?_, ?_, ?_, ?_⟩
  · rw [e1, e2]; exact h.win
  · rw [e2]; exact h.wl
  · rw [e2, e3]; exact h.gin
  · rw [e3]; exact h.asc
  · rw [e4]; exact h.psa
  · rw [e1, e4]; exact h.psi
  · rw [e5]; exact h.sua
  · rw [e1, e5]; exact h.sui
  · rw [e6]; exact h.aw
  · rw [e7]; exact h.al
  · rw [e7]; exact h.ast
theorem Iv.few {b : Nat} {t : TS} (h : Iv b t) : t.chores.length + 256 * t.names.length ≤ 256 * b := by
  by_cases e : t.at_ = 1
  · obtain ⟨h1, h2, _⟩ := h.at1' e
    rw [h1, h2]; simp
  · exact h.at1 e
theorem over_ok {b : Nat} {t : TS} (h : Core t) (hf : t.chores.length + 256 * t.names.length ≤ 256 * b) : IvR b (t.over, []) :=
  ⟨⟨h.core rfl rfl rfl rfl rfl rfl rfl, fun e => absurd rfl e, fun _ => hf, (fun e => by cases e), (fun e => by cases e), (fun e => by cases e), ⟨Int.le_refl _, by show (0 : Int) ≤ 7; omega⟩⟩, Nat.zero_le _, rfl⟩
theorem agree_ok {b : Nat} {t : TS} {nm : ByteArray} {force : Bool} {at' : Int} (h : Core t) (hp : t.p.ok = true) (hf : t.chores.length + 256 * t.names.length ≤ 256 * b) (ha : at' = 2 ∨ at' = 4 ∨ at' = 6) (h2 : at' = 2 → t.names ≠ []) : IvR b (t.agree nm force at') := by
  obtain ⟨s1, s2, s3⟩ := Sml.ask (s := init0 t.p t.ballot nm force false (IntKind.i64.wrap (2 * t.ballot))) (m := mask) hp (Nat.zero_le _) (Nat.zero_le _) (Nat.zero_le _) bare_ask
  refine ⟨⟨h.core rfl rfl rfl rfl rfl rfl rfl, fun _ => hp, fun _ => hf, fun e => ?_, h2, fun _ => ⟨rfl, rfl, s1⟩, ?_⟩, s3, strip_bares s2⟩
  · have : at' = 1 := e
    omega
  · show 0 ≤ at' ∧ at' ≤ 7
    omega
theorem round_ok {b : Nat} {t : TS} {at' : Int} {m : Msg} {to wait : List Int} (h : Core t) (hp : t.p.ok = true) (hf : t.chores.length + 256 * t.names.length ≤ 256 * b) (ha : at' = 1 ∨ at' = 3 ∨ at' = 5 ∨ at' = 7)
    (h1 : at' = 1 → t.chores = [] ∧ t.names = [] ∧ t.pn.length ≤ b) (ht : to.length ≤ 256) (hw : ∀ i ∈ wait, i ∈ ids t.p) (hl : wait.length ≤ 256) (hk : m.2.2.2.2.2.2.2.2.2.2.1.l.length ≤ 256) (hs : strip m = m) : IvR b (t.round at' m to wait) := by
  refine ⟨⟨⟨hw, hl, (fun m hm => by cases hm), List.Pairwise.nil, h.psa, h.psi, h.sua, h.sui, hk, ?_, ?_⟩, fun _ => hp, fun _ => hf, fun e => ?_, fun e => ?_, fun e => ?_, ?_⟩, ?_, ?_⟩
  · show (sendL t.ballot m to).length ≤ 256
    rw [sendL_len]; exact ht
  · show (sendL t.ballot m to).map strip = sendL t.ballot m to
    rw [strip_send, hs]
  · obtain ⟨g1, g2, g3⟩ := h1 e
    exact ⟨g1, g2, by show t.pn.length + 0 ≤ b; omega⟩
  · have : at' = 2 := e
    omega
  · have e' : (at' == 2 || at' == 4 || at' == 6) = true := e
    simp at e'
    omega
  · show 0 ≤ at' ∧ at' ≤ 7
    omega
  · show (sendL t.ballot m to).length ≤ 1000
    rw [sendL_len]; omega
  · show (sendL t.ballot m to).map strip = sendL t.ballot m to
    rw [strip_send, hs]
theorem name_ok {b : Nat} {t : TS} (h : Core t) (hp : t.p.ok = true) (hf : t.chores.length + 256 * t.names.length ≤ 256 * b) : IvR b t.name := by
  unfold TS.name
  split
  · rename_i nm r e
    exact agree_ok h hp hf (.inl rfl) fun _ => by rw [e]; simp
  · split
    · exact over_ok h hf
    · have := asc_ids hp h.sua h.sui
      exact round_ok h hp hf (.inr (.inl rfl)) (fun e => by omega) this h.sui this (Nat.zero_le _) rfl
theorem answered_ok {b : Nat} {t : TS} (h : Iv b t) : IvR b t.answered := by
  unfold TS.answered
  split
  · exact over_ok h.core h.few
  · exact ⟨h, Nat.zero_le _, rfl⟩
theorem newC_len {p : Plan} (hp : p.ok = true) (nm : ByteArray) (A : Agr.St) : (newC p nm A).length ≤ 256 := by
  unfold newC
  split
  · rw [List.length_map]
    exact Nat.le_trans (List.length_filter_le ..) (Nat.le_trans (targ_len p A.holders) (ids_len' hp))
  · split <;> simp
theorem named_ok {b : Nat} {t : TS} (h : Iv b t) (hp : t.p.ok = true) (hn : t.names ≠ []) : IvR b t.named := by
  unfold TS.named
  have hf := h.few
  have hl := newC_len hp (t.names.headD noS) t.A
  have hpos : 0 < t.names.length := List.length_pos_iff.2 hn
  refine name_ok ⟨h.core.win, h.core.wl, h.core.gin, h.core.asc, h.core.psa, h.core.psi, ?_, ?_, h.core.aw, h.core.al, h.core.ast⟩ hp ?_
  · show Asc (if t.A.fixed then t.sus.filter (fun i => decide (i ∈ t.A.acks)) else t.sus)
    split
    · exact asc_filter h.core.sua _
    · exact h.core.sua
  · show ∀ i ∈ (if t.A.fixed then t.sus.filter (fun i => decide (i ∈ t.A.acks)) else t.sus), i ∈ ids t.p
    split
    · exact fun i hi => h.core.sui i (List.mem_filter.1 hi).1
    · exact h.core.sui
  · show (t.chores ++ newC t.p (t.names.headD noS) t.A).length + 256 * t.names.tail.length ≤ 256 * b
    rw [List.length_append, List.length_tail]
    omega
theorem restL_le {p : Plan} (hp : p.ok = true) {l : List Int} (h : ∀ i ∈ l, i ∈ ids p) : (restL l []).length ≤ 256 := asc_ids hp (restL_spec l []).1 fun i hi => h i (((restL_spec l []).2 i).1 hi).1
theorem help_ids {p : Plan} {h : List Int} {i : Int} : ∀ j ∈ (helpL p h i).getD [], j ∈ ids p := by
  unfold helpL
  split
  · exact fun j hj => (List.mem_filter.1 (List.mem_of_mem_take hj)).1
  · exact fun j hj => by cases hj
theorem help_is {p : Plan} {h : List Int} {i : Int} (e : (helpL p h i).isSome = true) : i ∈ ids p := by
  unfold helpL at e
  split at e
  · rename_i hc
    have h1 : isP p i = true := ((Bool.and_eq_true _ _).mp hc).1
    unfold isP at h1
    simp at h1
    exact mem_ids.2 h1.2
  · cases e
theorem help_len {p : Plan} (hp : p.ok = true) (h : List Int) (i : Int) : ((helpL p h i).getD []).length ≤ 256 := by
  unfold helpL
  split
  · show ((thoseL p h i).take (p.t + p.l).toNat).length ≤ 256
    rw [List.length_take]
    have := those_len p h i
    have := ids_len' hp
    omega
  · exact Nat.zero_le _
theorem mend_ok {b : Nat} {t : TS} (h : Iv b t) (hp : t.p.ok = true) : IvR b t.mend := by
  unfold TS.mend
  split
  · rename_i hc
    have h2 : (helpL t.p t.A.holders t.c.tg).isSome = true := ((Bool.and_eq_true _ _).mp ((Bool.and_eq_true _ _).mp hc).1).2
    have hi := help_is h2
    refine round_ok h.core hp h.few (.inr (.inr (.inl rfl))) (fun e => by omega) (restL_le hp fun j hj => ?_) (fun i hi' => ?_) (by simp) (help_len hp _ _) rfl
    · rcases List.mem_append.1 hj with hj | hj
      · exact help_ids j hj
      · simp at hj; rw [hj]; exact hi
    · simp at hi'; rw [hi']; exact hi
  · exact over_ok h.core h.few
theorem purge_ok {b : Nat} {t : TS} (h : Iv b t) (hp : t.p.ok = true) : IvR b t.purge := by
  unfold TS.purge
  split
  · exact over_ok h.core h.few
  · exact round_ok h.core hp h.few (.inr (.inr (.inr rfl))) (fun e => by omega) (ids_len' hp) (fun i hi => hi) (ids_len' hp) (Nat.zero_le _) rfl
theorem sumN_filter (q : Msg → Bool) : ∀ L : List Msg, sumN (L.filter q) ≤ sumN L
  | [] => Nat.le_refl _
  | x :: xs => by
    have := sumN_filter q xs
    unfold sumN at this ⊢
    cases h : q x <;> simp [h] at this ⊢ <;> omega
theorem susL_asc : ∀ (L : List Msg) {S : List Int}, Asc S → Asc (susL S L)
  | [], S, h => h
  | x :: xs, S, h => by
    show Asc (susL (susStep S x) xs)
    refine susL_asc xs ?_
    unfold susStep
    split
    · exact (restL_spec _ _).1
    · exact h
theorem susL_in {P : Int → Prop} : ∀ (L : List Msg) {S : List Int}, (∀ i ∈ S, P i) → (∀ m ∈ L, P (from_ m)) → ∀ i ∈ susL S L, P i
  | [], S, h, _ => h
  | x :: xs, S, h, hL => by
    show ∀ i ∈ susL (susStep S x) xs, P i
    refine susL_in xs (fun i hi => ?_) fun m hm => hL m (by simp [hm])
    unfold susStep at hi
    split at hi
    · rcases List.mem_append.1 (((restL_spec _ _).2 i).1 hi).1 with h1 | h1
      · exact h i h1
      · simp at h1; rw [h1]; exact hL x (by simp)
    · exact h i hi
theorem turned_core {t : TS} (h : Core t) : Core t.turned :=
  ⟨h.win, h.wl, h.gin, h.asc, susL_asc _ h.psa, susL_in (listL t.G) h.psi fun m hm => h.win _ (h.gin m (List.mem_filter.1 hm).1), h.sua, h.sui, h.aw, h.al, h.ast⟩
theorem listed_okI {b : Nat} {t : TS} (h : Iv b t) (hp : t.p.ok = true) (e1 : t.at_ = 1) : IvR b t.listed := by
  obtain ⟨c0, n0, hb⟩ := h.at1' e1
  have hl := Page.namesL_len (limL (listL t.G)) t.pn (listL t.G)
  have hs : sumN (listL t.G) ≤ sumN t.G := sumN_filter _ _
  have hc := turned_core h.core
  have hpn : t.turned.pn.length ≤ b := by show (namesL (limL (listL t.G)) t.pn (listL t.G)).length ≤ b; omega
  unfold TS.listed
  split
  · split
    · refine name_ok ⟨hc.win, hc.wl, hc.gin, hc.asc, hc.psa, hc.psi, hc.psa, hc.psi, hc.aw, hc.al, hc.ast⟩ hp ?_
      show t.chores.length + 256 * t.turned.pn.length ≤ 256 * b
      rw [c0]; simp; omega
    · refine round_ok hc hp ?_ (.inl rfl) (fun _ => ⟨c0, n0, hpn⟩) (ids_len' hp) (fun i hi => hi) (ids_len' hp) (Nat.zero_le _) rfl
      show t.chores.length + 256 * t.names.length ≤ 256 * b
      rw [c0, n0]; simp
  · exact answered_ok h
theorem next_ok {b : Nat} {t : TS} (h : Iv b t) (hp : t.p.ok = true) : IvR b t.next := by
  unfold TS.next
  split
  · exact listed_okI h hp (by assumption)
  · split
    · exact named_ok h hp (h.at2 (by assumption))
    · split
      · exact mend_ok h hp
      · split
        · exact purge_ok h hp
        · exact answered_ok h
theorem IvR.mono {b c : Nat} {r : TS × List Msg} (h : IvR b r) (hb : b ≤ c) : IvR c r :=
  ⟨⟨h.iv.core, h.iv.pok, fun e => by have := h.iv.at1 e; omega, fun e => by obtain ⟨a, b', c'⟩ := h.iv.at1' e; exact ⟨a, b', by omega⟩, h.iv.at2, h.iv.ap, h.iv.rng⟩, h.len, h.str⟩
theorem agrees_at {t : TS} (h : t.agrees = true) : t.at_ = 2 ∨ t.at_ = 4 ∨ t.at_ = 6 := by
  unfold TS.agrees at h
  simp at h
  omega
theorem goes_ok {b : Nat} {t : TS} {r : Agr.St × List Msg} (h : Iv b t) (hg : t.agrees = true) (hr : SmlR r) (hp' : r.1.p = t.p) : IvR b (t.goes r) := by
  have ha := agrees_at hg
  have hp := h.pok (by omega)
  unfold TS.goes
  split
  · split
    · have hi : Iv b { t with A := r.1 } → IvR b (TS.next { t with A := r.1 }) := fun hi => next_ok hi hp
      rename_i ho _
      -- the judged agreement is over: only what lies beside it is used
      have hc : Core { t with A := r.1 } := h.core.core rfl rfl rfl rfl rfl rfl rfl
      have hf : ({ t with A := r.1 } : TS).chores.length + 256 * ({ t with A := r.1 } : TS).names.length ≤ 256 * b := h.few
      unfold TS.next
      rw [if_neg (show ¬ t.at_ = 1 by omega)]
      split
      · rename_i e2
        have hn := h.at2 e2
        have hl := newC_len hp (t.names.headD noS) r.1
        have hpos : 0 < t.names.length := List.length_pos_iff.2 hn
        have hf' := h.few
        unfold TS.named
        refine name_ok ⟨hc.win, hc.wl, hc.gin, hc.asc, hc.psa, hc.psi, ?_, ?_, hc.aw, hc.al, hc.ast⟩ hp ?_
        · show Asc (if r.1.fixed then t.sus.filter (fun i => decide (i ∈ r.1.acks)) else t.sus)
          split
          · exact asc_filter hc.sua _
          · exact hc.sua
        · show ∀ i ∈ (if r.1.fixed then t.sus.filter (fun i => decide (i ∈ r.1.acks)) else t.sus), i ∈ ids t.p
          split
          · exact fun i hi => hc.sui i (List.mem_filter.1 hi).1
          · exact hc.sui
        · show (t.chores ++ newC t.p (t.names.headD noS) r.1).length + 256 * t.names.tail.length ≤ 256 * b
          rw [List.length_append, List.length_tail]
          omega
      · split
        · unfold TS.mend
          split
          · rename_i hcc
            have h2 : (helpL t.p r.1.holders t.c.tg).isSome = true := ((Bool.and_eq_true _ _).mp ((Bool.and_eq_true _ _).mp hcc).1).2
            have hi := help_is h2
            refine round_ok hc hp hf (.inr (.inr (.inl rfl))) (fun e => by omega) (restL_le hp fun j hj => ?_) (fun i hi' => ?_) (by simp) (help_len hp _ _) rfl
            · rcases List.mem_append.1 hj with hj | hj
              · exact help_ids j hj
              · simp at hj; rw [hj]; exact hi
            · simp at hi'; rw [hi']; exact hi
          · exact over_ok hc hf
        · split
          · unfold TS.purge
            split
            · exact over_ok hc hf
            · exact round_ok hc hp hf (.inr (.inr (.inr rfl))) (fun e => by omega) (ids_len' hp) (fun i hi => hi) (ids_len' hp) (Nat.zero_le _) rfl
          · exfalso
            rename_i g1 g2 g3
            rcases ha with e | e | e
            · exact g1 e
            · exact g2 e
            · exact g3 e
    · exact over_ok (h.core.core rfl rfl rfl rfl rfl rfl rfl) h.few
  · rename_i ho
    exact ⟨⟨h.core.core rfl rfl rfl rfl rfl rfl rfl, h.pok, h.at1, h.at1', h.at2, fun _ => ⟨hp', by simpa using ho, hr.s⟩, h.rng⟩, hr.len, strip_bares hr.bare⟩
theorem take_p (s : Agr.St) (m : Msg) : (s.take m).1.p = s.p := by
  have jp : ∀ s : Agr.St, s.judge.1.p = s.p := fun s => by
    rcases judge_cases s with ⟨hs, _⟩ | ⟨hf, u, v, hs, _, _, _, _, hj⟩
    · exact hs.p
    · rw [hj]; exact hs.p
  unfold Agr.St.take
  split
  · rfl
  · split
    · split
      · exact jp (s.got m)
      · rfl
    · rfl
theorem tick_p (s : Agr.St) : s.tick.1.p = s.p := by
  have jp : ∀ s : Agr.St, s.judge.1.p = s.p := fun s => by
    rcases judge_cases s with ⟨hs, _⟩ | ⟨hf, u, v, hs, _, _, _, _, hj⟩
    · exact hs.p
    · rw [hj]; exact hs.p
  unfold Agr.St.tick
  split
  · rfl
  · split
    · exact jp s
    · unfold Agr.St.late
      split <;> exact jp s
theorem sumN_ins (G : List Msg) (m : Msg) : sumN (insG G m) = sumN G + (names_ m).l.length := by
  have hp := Rnd.ins_perm G m
  unfold sumN
  rw [(hp.map fun m => (names_ m).l.length).sum_nat]
  simp
theorem got_core {t : TS} {m : Msg} (h : Core t) (ht : takesG t.wait t.G m = true) : Core (t.got m) := by
  obtain ⟨n1, n2⟩ := takes_new ht
  refine ⟨h.win, h.wl, fun y hy => ?_, Rnd.ins_asc h.asc n2, h.psa, h.psi, h.sua, h.sui, h.aw, h.al, h.ast⟩
  rcases Rnd.mem_ins.1 hy with hy | hy
  · exact h.gin y hy
  · rw [hy]; exact n1
theorem got_iv' {b : Nat} {t : TS} {m : Msg} (h : Iv b t) (ht : takesG t.wait t.G m = true) : Iv (b + (names_ m).l.length) (t.got m) := by
  refine ⟨got_core h.core ht, h.pok, fun e => ?_, fun e => ?_, h.at2, h.ap, h.rng⟩
  · have := h.at1 e
    show t.chores.length + 256 * t.names.length ≤ 256 * (b + (names_ m).l.length)
    omega
  · obtain ⟨a, b', c'⟩ := h.at1' e
    refine ⟨a, b', ?_⟩
    show t.pn.length + sumN (insG t.G m) ≤ b + (names_ m).l.length
    rw [sumN_ins]; omega
theorem Iv.mono {b c : Nat} {t : TS} (h : Iv b t) (hb : b ≤ c) : Iv c t :=
  ⟨h.core, h.pok, fun e => by have := h.at1 e; omega, fun e => by obtain ⟨a, b', c'⟩ := h.at1' e; exact ⟨a, b', by omega⟩, h.at2, h.ap, h.rng⟩
theorem got_iv {b : Nat} {t : TS} {m : Msg} (h : Iv b t) (ht : takesG t.wait t.G m = true) (hm : (names_ m).l.length ≤ 100) : Iv (b + 100) (t.got m) := (got_iv' h ht).mono (by omega)
theorem take_iv {b : Nat} {t : TS} {m : Msg} (h : Iv b t) (hg : t.agrees = true → t.A.G.length ≤ 256) : IvR (b + (names_ m).l.length) (t.take m) := by
  have h0 : IvR b (t, []) := ⟨h, Nat.zero_le _, rfl⟩
  unfold TS.take
  split
  · exact h0.mono (by omega)
  rename_i e0
  have hp := h.pok e0
  split
  · rename_i ha
    obtain ⟨p1, p2, p3⟩ := h.ap ha
    exact (goes_ok h ha (p3.take (by rw [p1]; exact hp) (hg ha) m) (by rw [take_p, p1])).mono (by omega)
  · split
    · exact (over_ok h.core h.few).mono (by omega)
    · split
      · rename_i hc
        have ht := ((Bool.and_eq_true _ _).mp hc).2
        have hi := got_iv' h ht
        split
        · exact next_ok hi hp
        · exact ⟨hi, Nat.zero_le _, rfl⟩
      · exact h0.mono (by omega)
theorem tick_iv {b : Nat} {t : TS} (h : Iv b t) (hg : t.agrees = true → t.A.G.length ≤ 256) : IvR b t.tick := by
  unfold TS.tick
  split
  · exact ⟨h, Nat.zero_le _, rfl⟩
  rename_i e0
  have hp := h.pok e0
  split
  · rename_i ha
    obtain ⟨p1, p2, p3⟩ := h.ap ha
    exact goes_ok h ha (p3.tick (by rw [p1]; exact hp) (hg ha)) (by rw [tick_p, p1])
  · split
    · exact next_ok h hp
    · unfold TS.late
      split
      · exact over_ok h.core h.few
      · refine ⟨⟨h.core.core rfl rfl rfl rfl rfl rfl rfl, h.pok, h.at1, h.at1', h.at2, h.ap, h.rng⟩, ?_, ?_⟩
        · have := List.length_filter_le (fun x => !decide (Rnd.to_ x ∈ froms t.G)) t.asks
          have h3 := h.core.al
          show (t.asks.filter _).length ≤ 1000
          omega
        · show (t.asks.filter _).map strip = t.asks.filter _
          conv => rhs; rw [← List.map_id (t.asks.filter _)]
          refine List.map_congr_left fun m hm => ?_
          have hm' := (List.mem_filter.1 hm).1
          obtain ⟨i, hi⟩ := List.getElem?_of_mem hm'
          have h1 : (t.asks.map strip)[i]? = t.asks[i]? := by rw [h.core.ast]
          rw [List.getElem?_map, hi] at h1
          simpa using h1
theorem start_iv {p : Plan} {b : Int} {c : Ch} {o : Bool} : IvR 0 (start p b c o) := by
  have hc : Core (start0 p b c) := ⟨(fun i hi => by cases hi), Nat.zero_le _, (fun i hi => by cases hi), List.Pairwise.nil, List.Pairwise.nil, (fun i hi => by cases hi), List.Pairwise.nil, (fun i hi => by cases hi), Nat.zero_le _, Nat.zero_le _, rfl⟩
  have h0 : IvR 0 (start0 p b c, []) := ⟨⟨hc, (fun e => absurd rfl e), fun _ => Nat.le_refl _, (fun e => by cases e), (fun e => by cases e), (fun e => by cases e), ⟨Int.le_refl _, by show (0 : Int) ≤ 7; omega⟩⟩, Nat.zero_le _, rfl⟩
  unfold start
  split
  · exact h0
  · rename_i hn
    have hp : (start0 p b c).p.ok = true := by
      show p.ok = true
      cases h : p.ok with
      | true => rfl
      | false => rw [h] at hn; simp at hn
    split
    · exact round_ok hc hp (Nat.le_refl _) (.inl rfl) (fun _ => ⟨rfl, rfl, Nat.le_refl _⟩) (ids_len' hp) (fun i hi => hi) (ids_len' hp) (Nat.zero_le _) rfl
    · split
      · exact agree_ok hc hp (Nat.le_refl _) (.inr (.inl rfl)) (fun e => by omega)
      · split
        · exact agree_ok hc hp (Nat.le_refl _) (.inr (.inr rfl)) (fun e => by omega)
        · exact h0
end Go.Cho
namespace Go.Vc
open Go.Vx Go Go.Proofs.Tryz
def choStart.cx : Cx := ⟨[13], [], [], []⟩
def choDone.cx : Cx := ⟨[], [], [], []⟩
def choTick.cx : Cx := ⟨[], [], [], []⟩
def choTake.cx : Cx := ⟨[], [], [], []⟩
def choEnd.cx : Cx := ⟨[], [], [], []⟩
def choList.cx : Cx := ⟨[], [], [], []⟩
def choAgree.cx : Cx := ⟨[], [], [], []⟩
def choMend.cx : Cx := ⟨[6], [], [], []⟩
def choPurge.cx : Cx := ⟨[], [], [], []⟩
def choGoes.cx : Cx := ⟨[], [], [], []⟩
def choRefuses.cx : Cx := ⟨[], [], [], []⟩
def choTakes.cx : Cx := ⟨[], [], [], []⟩
def choAll.cx : Cx := ⟨[], [], [], []⟩
def choListed.cx : Cx := ⟨[], [], [], []⟩
def choRound.cx : Cx := ⟨[1000006], [(4, [11, 21], [6])], [], []⟩
def choAnswered.cx : Cx := ⟨[], [], [], []⟩
def choName.cx : Cx := ⟨[], [], [], []⟩
def choNamed.cx : Cx := ⟨[1], [(8, [56], [])], [], []⟩
def choNamed1.cx : Cx := ⟨[], [], [], []⟩
def choNamed2.cx : Cx := ⟨[], [], [], []⟩
def cloneC.cx : Cx := ⟨[], [], [], []⟩
theorem choStart.vc (n1 n2 n3 n4 n5 n6 n7 n8 : Int) (s9 : ByteArray) (n10 : Int) (H : PHeap) (Q : Value -> PHeap -> Prop)
 (h : ∀ (k11 : Nat), H k11 = none -> Triple prog 19 #[.agg #[iw n1, iw n2, iw n3, iw n4, iw n5, iw n6]] (H.upd k11 (Obj.cells #[iw n1, iw n2, iw n3, iw n4, iw n5, iw n6, iw n7,
 iw n8, .string s9, iw n10, .pointer none, .pointer none, iw 0, iw 0, iw 0, iw 0, .string ({ data := #[] } : ByteArray), iw 0, iw 0, iw 0, iw 0, iw 0,
 sw none 0 0, sw none 0 0, sw none 0 0, Value.nilFunc, .bool false, .bool false, .bool false, iw 0, iw 0,
 iw 0, sw none 0 0, sw none 0 0, sw none 0 0, sw none 0 0, .string ({ data := #[] } : ByteArray), sw none 0 0, sw none 0 0, sw none 0 0, sw none 0 0, .bool false] 75)) fun v12 H13 => ∃ b14, v12 = .bool b14 /\
 ((!b14) = false -> ((n8 != 1) = true -> Triple prog 20 #[.string s9] H13 fun v15 H16 => ∃ b17, v15 = .bool b17 /\ ((!b17) = true -> Triple prog 21 #[.pointer (at0 k11)] H16 fun v18 H19 =>
 ∃ a20 k21 k22, v18 = sw a20 k21 k22 /\ Q (.tuple #[.pointer (at0 k11), sw a20 k21 k22]) H19) /\ ((!b17) = false -> ((n8 == 1) = true -> Triple prog 22 #[.pointer (at0 k11)] H16 fun v23 H24 =>
 ∃ a25 k26 k27, v23 = sw a25 k26 k27 /\ Q (.tuple #[.pointer (at0 k11), sw a25 k26 k27]) H24) /\ ((n8 == 1) = false -> ((n8 == 2) = true ->
 Triple prog 23 #[.pointer (at0 k11), .string s9, .bool true, Value.func (Fn.func 24) #[] #[]] H16 fun v28 H29 => ∃ a30 k31 k32, v28 = sw a30 k31 k32 /\ Q (.tuple #[.pointer (at0 k11), sw a30 k31 k32]) H29) /\
 ((n8 == 2) = false -> ((n8 == 3) = true -> Triple prog 23 #[.pointer (at0 k11), .string s9, .bool true, Value.func (Fn.func 25) #[] #[]] H16 fun v33 H34 =>
 ∃ a35 k36 k37, v33 = sw a35 k36 k37 /\ Q (.tuple #[.pointer (at0 k11), sw a35 k36 k37]) H34) /\ ((n8 == 3) = false -> Triple prog 21 #[.pointer (at0 k11)] H16 fun v38 H39 =>
 ∃ a40 k41 k42, v38 = sw a40 k41 k42 /\ Q (.tuple #[.pointer (at0 k11), sw a40 k41 k42]) H39))))) /\ ((n8 != 1) = !true -> ((n8 == 1) = true -> Triple prog 22 #[.pointer (at0 k11)] H13 fun v43 H44 =>
 ∃ a45 k46 k47, v43 = sw a45 k46 k47 /\ Q (.tuple #[.pointer (at0 k11), sw a45 k46 k47]) H44) /\ ((n8 == 1) = false -> ((n8 == 2) = true ->
 Triple prog 23 #[.pointer (at0 k11), .string s9, .bool true, Value.func (Fn.func 24) #[] #[]] H13 fun v48 H49 => ∃ a50 k51 k52, v48 = sw a50 k51 k52 /\ Q (.tuple #[.pointer (at0 k11), sw a50 k51 k52]) H49) /\
 ((n8 == 2) = false -> ((n8 == 3) = true -> Triple prog 23 #[.pointer (at0 k11), .string s9, .bool true, Value.func (Fn.func 25) #[] #[]] H13 fun v53 H54 =>
 ∃ a55 k56 k57, v53 = sw a55 k56 k57 /\ Q (.tuple #[.pointer (at0 k11), sw a55 k56 k57]) H54) /\ ((n8 == 3) = false -> Triple prog 21 #[.pointer (at0 k11)] H13 fun v58 H59 =>
 ∃ a60 k61 k62, v58 = sw a60 k61 k62 /\ Q (.tuple #[.pointer (at0 k11), sw a60 k61 k62]) H59))))) /\ ((!b14) = !false -> Triple prog 21 #[.pointer (at0 k11)] H13 fun v63 H64 =>
 ∃ a65 k66 k67, v63 = sw a65 k66 k67 /\ Q (.tuple #[.pointer (at0 k11), sw a65 k66 k67]) H64)) : Triple prog 7 ([.agg #[iw n1, iw n2, iw n3, iw n4, iw n5, iw n6], iw n7,
 .agg #[iw n8, .string s9, iw n10]]).toArray H Q := Triple.of_vc choStart.cx (by kernel_rfl) h
theorem choDone.vc (a1 : Option Addr) (H : PHeap) (Q : Value -> PHeap -> Prop)
 (h : (a1.isNone = false -> Ob (a1 ≠ none) /\ Ob (a1 ≠ none) /\ ∃ b2, Reads H (fldA a1 41) [.bool b2] /\ ((!b2) = true -> Q (.tuple #[sw none 0 0, .bool false]) H) /\ ((!b2) = false -> Ob (a1 ≠ none) /\
 Ob (a1 ≠ none) /\ ∃ a3 k4 k5, Reads H (fldA a1 40) [sw a3 k4 k5] /\ Triple prog 30 #[sw a3 k4 k5] H fun v6 H7 => ∃ a8 k9 k10, v6 = sw a8 k9 k10 /\ Q (.tuple #[sw a8 k9 k10, .bool true]) H7)) /\
 (a1.isNone = !false -> Q (.tuple #[sw none 0 0, .bool false]) H)) : Triple prog 9 ([.pointer a1]).toArray H Q := Triple.of_vc choDone.cx (by kernel_rfl) h
theorem choTick.vc (a1 : Option Addr) (H : PHeap) (Q : Value -> PHeap -> Prop)
 (h : (a1.isNone = false -> Ob (a1 ≠ none) /\ Ob (a1 ≠ none) /\ ∃ b2, Reads H (fldA a1 41) [.bool b2] /\ (b2 = true -> Q (sw none 0 0) H) /\ (b2 = false -> Ob (a1 ≠ none) /\ Ob (a1 ≠ none) /\ ∃ a3,
 Reads H (fldA a1 10) [.pointer a3] /\ ((!a3.isNone) = true -> Ob (a1 ≠ none) /\ Ob (a1 ≠ none) /\ ∃ a4, Reads H (fldA a1 10) [.pointer a4] /\ Triple prog 33 #[.pointer a4] H fun v5 H6 => ∃ a7 k8 k9, v5 = sw a7 k8 k9 /\
 Triple prog 32 #[.pointer a1, sw a7 k8 k9] H6 fun v10 H11 => ∃ a12 k13 k14, v10 = sw a12 k13 k14 /\ Q (sw a12 k13 k14) H11) /\ ((!a3.isNone) = false -> Ob (a1 ≠ none) /\ Ob (a1 ≠ none) /\ ∃ a15,
 Reads H (fldA a1 11) [.pointer a15] /\ Ob (a1 ≠ none) /\ Ob (a1 ≠ none) /\ ∃ v16, Reads H (fldA a1 25) [v16] /\ CallY prog v16 #[.pointer a1] H fun v17 H18 => ∃ a19 k20 k21, v17 = sw a19 k20 k21 /\ Ob (a1 ≠ none) /\
 Ob (a1 ≠ none) /\ ∃ b22, Reads H18 (fldA a1 41) [.bool b22] /\ (b22 = false -> Ob (a1 ≠ none) /\ Ob (a1 ≠ none) /\ ∃ a23, Reads H18 (fldA a1 10) [.pointer a23] /\ ((!a23.isNone) = false -> Ob (a1 ≠ none) /\
 Ob (a1 ≠ none) /\ ∃ a24, Reads H18 (fldA a1 11) [.pointer a24] /\ LookV prog (binOp .neq 66 (.pointer a24) (.pointer a15)) H18 fun v25 => ∃ b26, v25 = .bool b26 /\ (b26 = true -> Q (sw a19 k20 k21) H18) /\
 (b26 = false -> Ob (a1 ≠ none) /\ Ob (a1 ≠ none) /\ ∃ a27, Reads H18 (fldA a1 11) [.pointer a27] /\ Triple prog 34 #[.pointer a27] H18 fun v28 H29 => ∃ a30 k31 k32 b33, v28 = .tuple #[sw a30 k31 k32, .bool b33] /\
 (b33 = true -> Triple prog 21 #[.pointer a1] H29 fun v34 H35 => ∃ a36 k37 k38, v34 = sw a36 k37 k38 /\ Q (sw a36 k37 k38) H35) /\ (b33 = false -> Q (sw a30 k31 k32) H29))) /\
 ((!a23.isNone) = !false -> Q (sw a19 k20 k21) H18)) /\ (b22 = !false -> Q (sw a19 k20 k21) H18)))) /\ (a1.isNone = !false -> Q (sw none 0 0) H)) : Triple prog 12 ([.pointer a1]).toArray H Q :=
 Triple.of_vc choTick.cx (by kernel_rfl) h
theorem choTake.vc (a1 : Option Addr) (n2 n3 n4 n5 : Int) (s6 : ByteArray) (n7 n8 n9 n10 n11 : Int) (a12 : Option Addr) (k13 k14 : Nat) (a15 : Option Addr) (k16 k17 : Nat) (a18 : Option Addr) (k19 k20 : Nat) (H : PHeap) (Q : Value -> PHeap -> Prop)
 (h : (a1.isNone = false -> Ob (a1 ≠ none) /\ Ob (a1 ≠ none) /\ ∃ b21, Reads H (fldA a1 41) [.bool b21] /\ (b21 = true -> Q (sw none 0 0) H) /\ (b21 = false -> Ob (a1 ≠ none) /\ Ob (a1 ≠ none) /\ ∃ a22,
 Reads H (fldA a1 10) [.pointer a22] /\ ((!a22.isNone) = true -> ∃ H23, Vx.Sub H23 H /\ Ob (a1 ≠ none) /\ Ob (a1 ≠ none) /\ ∃ a24, Reads H23 (fldA a1 10) [.pointer a24] /\ Triple prog 41 #[.pointer a24, Value.agg
 #[iw n2, iw n3, iw n4, iw n5, .string s6, iw n7, iw n8, iw n9, iw n10, iw n11, sw a12 k13 k14, sw a15 k16 k17, sw a18 k19 k20]] H fun v25 H26 => ∃ a27 k28 k29, v25 = sw a27 k28 k29 /\
 Triple prog 32 #[.pointer a1, sw a27 k28 k29] H26 fun v30 H31 => ∃ a32 k33 k34, v30 = sw a32 k33 k34 /\ Q (sw a32 k33 k34) H31) /\ ((!a22.isNone) = false -> Triple prog 42 #[.pointer a1, Value.agg
 #[iw n2, iw n3, iw n4, iw n5, .string s6, iw n7, iw n8, iw n9, iw n10, iw n11, sw a12 k13 k14, sw a15 k16 k17, sw a18 k19 k20]] H fun v35 H36 => ∃ b37, v35 = .bool b37 /\
 (b37 = true -> Triple prog 21 #[.pointer a1] H36 fun v38 H39 => ∃ a40 k41 k42, v38 = sw a40 k41 k42 /\ Q (sw a40 k41 k42) H39) /\ (b37 = false -> ∃ H43, Vx.Sub H43 H36 /\ Triple prog 43 #[.pointer a1, Value.agg
 #[iw n2, iw n3, iw n4, iw n5, .string s6, iw n7, iw n8, iw n9, iw n10, iw n11, sw a12 k13 k14, sw a15 k16 k17, sw a18 k19 k20]] H36 fun v44 H45 => ∃ b46, v44 = .bool b46 /\ Vx.Sub H43 H45 /\ ((!b46) = false ->
 Ob (a1 ≠ none) /\ Ob (a1 ≠ none) /\ ∃ a47, Reads H43 (fldA a1 11) [.pointer a47] /\ Triple prog 44 #[.pointer a47, Value.agg #[iw n2, iw n3, iw n4, iw n5, .string s6, iw n7, iw n8, iw n9, iw n10,
 iw n11, sw a12 k13 k14, sw a15 k16 k17, sw a18 k19 k20]] H45 fun v48 H49 => ∃ b50, v48 = .bool b50 /\ Vx.Sub H43 H49 /\ ((!b50) = false -> Ob (a1 ≠ none) /\ Ob (a1 ≠ none) /\ ∃ a51,
 Reads H43 (fldA a1 11) [.pointer a51] /\ Triple prog 45 #[.pointer a51] H49 fun v52 H53 => ∃ b54, v52 = .bool b54 /\ ((!b54) = true -> Q (sw none 0 0) H53) /\ ((!b54) = false -> Ob (a1 ≠ none) /\ Ob (a1 ≠ none) /\
 ∃ v55, Reads H53 (fldA a1 25) [v55] /\ CallY prog v55 #[.pointer a1] H53 fun v56 H57 => ∃ a58 k59 k60, v56 = sw a58 k59 k60 /\ Q (sw a58 k59 k60) H57)) /\ ((!b50) = !false -> Q (sw none 0 0) H49)) /\
 ((!b46) = !false -> Q (sw none 0 0) H45))))) /\ (a1.isNone = !false -> Q (sw none 0 0) H)) : Triple prog 14 ([.pointer a1, Value.agg #[iw n2, iw n3, iw n4, iw n5, .string s6, iw n7, iw n8,
 iw n9, iw n10, iw n11, sw a12 k13 k14, sw a15 k16 k17, sw a18 k19 k20]]).toArray H Q := Triple.of_vc choTake.cx (by kernel_rfl) h
theorem choEnd.vc (a1 : Option Addr) (H : PHeap) (Q : Value -> PHeap -> Prop)
 (h : Ob (a1 ≠ none) /\ Ob (a1 ≠ none) /\ ∃ H2, Writes H H2 (fldA a1 41) [.bool true] /\ Q (sw none 0 0) H2) : Triple prog 21 ([.pointer a1]).toArray H Q := Triple.of_vc choEnd.cx (by kernel_rfl) h
theorem choList.vc (a1 : Option Addr) (H : PHeap) (Q : Value -> PHeap -> Prop)
 (h : Ob (a1 ≠ none) /\ Ob (a1 ≠ none) /\ Triple prog 55 #[.pointer (fldA a1 35)] H fun v2 H3 => ∃ s4, v2 = .string s4 /\ Triple prog 54 #[.pointer a1, Value.agg #[iw 6, iw 0, iw 0, iw 0, .string s4, iw 0, iw 0,
 iw 0, iw 0, iw 0, sw none 0 0, sw none 0 0, sw none 0 0], Value.func (Fn.func 56) #[] #[]] H3 fun v5 H6 => ∃ a7 k8 k9, v5 = sw a7 k8 k9 /\ Q (sw a7 k8 k9) H6) : Triple prog 22 ([.pointer a1]).toArray H Q :=
 Triple.of_vc choList.cx (by kernel_rfl) h
theorem choAgree.vc (a1 : Option Addr) (s2 : ByteArray) (b3 : Bool) (v4 : Value) (H : PHeap) (Q : Value -> PHeap -> Prop)
 (h : ∃ H5, Vx.Sub H5 H /\ Ob (a1 ≠ none) /\ Ob (a1 ≠ none) /\ ∃ n6 n7 n8 n9 n10 n11, Reads H5 (fldA a1 0) [iw n6, iw n7, iw n8, iw n9, iw n10, iw n11] /\ Ob (a1 ≠ none) /\ Ob (a1 ≠ none) /\ ∃ n12,
 Reads H5 (fldA a1 6) [iw n12] /\ Triple prog 57 #[.agg #[iw n6, iw n7, iw n8, iw n9, iw n10, iw n11], iw n12, .string s2, .bool b3] H fun v13 H14 => ∃ a15 a16 k17 k18, v13 = .tuple #[.pointer a15, sw a16 k17 k18] /\
 Ob (a1 ≠ none) /\ Ob (a1 ≠ none) /\ ∃ H19, Writes H14 H19 (fldA a1 10) [.pointer a15] /\ Ob (a1 ≠ none) /\ Ob (a1 ≠ none) /\ ∃ H20, Writes H19 H20 (fldA a1 11) [.pointer none] /\
 Ob (a1 ≠ none) /\ Ob (a1 ≠ none) /\ Ob (okCell v4 = true) /\ ∃ H21, Writes H20 H21 (fldA a1 25) [v4] /\ Q (sw a16 k17 k18) H21) : Triple prog 23 ([.pointer a1, .string s2, .bool b3, v4]).toArray H Q :=
 Triple.of_vc choAgree.cx (by kernel_rfl) h
theorem choMend.vc (a1 : Option Addr) (H : PHeap) (Q : Value -> PHeap -> Prop)
 (h : Ob (a1 ≠ none) /\ Ob (a1 ≠ none) /\ Ob (fldA a1 26 ≠ none) /\ ∃ b2 n3 n4 n5, Reads H (fldA (fldA a1 26) 2) [.bool b2, iw n3, iw n4, iw n5] /\ ∃ H6, Vx.Sub H6 H /\ Ob (a1 ≠ none) /\ Ob (a1 ≠ none) /\
 ∃ n7 n8 n9 n10 n11 n12, Reads H6 (fldA a1 0) [iw n7, iw n8, iw n9, iw n10, iw n11, iw n12] /\ Ob (a1 ≠ none) /\ Ob (a1 ≠ none) /\ Ob (fldA a1 26 ≠ none) /\ ∃ a13 k14 k15,
 Reads H6 (fldA (fldA a1 26) 6) [sw a13 k14 k15] /\ Ob (a1 ≠ none) /\ Ob (a1 ≠ none) /\ Ob (fldA a1 7 ≠ none) /\ ∃ n16, Reads H6 (fldA (fldA a1 7) 2) [iw n16] /\ Triple prog 58 #[Value.agg
 #[iw n7, iw n8, iw n9, iw n10, iw n11, iw n12], sw a13 k14 k15, iw n16] H fun v17 H18 => ∃ a19 k20 k21 b22, v17 = .tuple #[sw a19 k20 k21, .bool b22] /\ ∃ H23, Vx.Sub H23 H18 /\ ((!b2) = false -> ((!b22) = false ->
 Ob (a1 ≠ none) /\ Ob (a1 ≠ none) /\ Ob (fldA a1 26 ≠ none) /\ ∃ a24 k25 k26, Reads H23 (fldA (fldA a1 26) 6) [sw a24 k25 k26] /\ Ob (a1 ≠ none) /\ Ob (a1 ≠ none) /\ Ob (fldA a1 7 ≠ none) /\ ∃ n27,
 Reads H23 (fldA (fldA a1 7) 2) [iw n27] /\ Triple prog 59 #[sw a24 k25 k26, iw n27] H18 fun v28 H29 => ∃ b30, v28 = .bool b30 /\ (b30 = true -> Triple prog 21 #[.pointer a1] H29 fun v31 H32 =>
 ∃ a33 k34 k35, v31 = sw a33 k34 k35 /\ Q (sw a33 k34 k35) H32) /\ (b30 = false -> ∃ H36, Vx.Sub H36 H29 /\ Ob (a1 ≠ none) /\ Ob (a1 ≠ none) /\ Ob (fldA a1 7 ≠ none) /\ ∃ s37,
 Reads H36 (fldA (fldA a1 7) 1) [.string s37] /\ Ob (a1 ≠ none) /\ Ob (a1 ≠ none) /\ Ob (fldA a1 7 ≠ none) /\ ∃ n38, Reads H36 (fldA (fldA a1 7) 2) [iw n38] /\ ∀ (k39 : Nat), H29 k39 = none -> Vx.Sub H36 (H29.upd k39
 (Obj.cells #[iw 0, iw 0, iw 0, iw 0, .string ({ data := #[] } : ByteArray), iw 0, iw 0, iw 0, iw 0, iw 0, sw none 0 0, sw none 0 0, sw none 0 0] 52)) /\ ∃ H40, Writes (H29.upd k39 (Obj.cells #[iw 0, iw 0, iw 0, iw 0,
 .string ({ data := #[] } : ByteArray), iw 0, iw 0, iw 0, iw 0, iw 0, sw none 0 0, sw none 0 0, sw none 0 0] 52)) H40 (at0 k39) [iw 10, iw 0, iw 0, iw 0, .string s37, iw n3, iw n4, iw n38, iw n5,
 iw 0, sw a19 k20 k21, sw none 0 0, sw none 0 0] /\ ∃ H41, Vx.Sub H41 H40 /\ ∃ n42 n43 n44 n45 s46 n47 n48 n49 n50 n51 a52 k53 k54 a55 k56 k57 a58 k59 k60, Reads H41 (at0 k39) [iw n42, iw n43, iw n44, iw n45,
 .string s46, iw n47, iw n48, iw n49, iw n50, iw n51, sw a52 k53 k54, sw a55 k56 k57, sw a58 k59 k60] /\ Ob (a1 ≠ none) /\ Ob (a1 ≠ none) /\ Ob (fldA a1 7 ≠ none) /\ ∃ n61, Reads H41 (fldA (fldA a1 7) 2) [iw n61] /\
 Ob (a1 ≠ none) /\ Ob (a1 ≠ none) /\ Ob (fldA a1 7 ≠ none) /\ ∃ n62, Reads H41 (fldA (fldA a1 7) 2) [iw n62] /\ ∀ (k63 : Nat), H40 k63 = none -> Vx.Sub H41 (H40.upd k63 (Obj.cells #[iw n61] 3)) /\ EvV prog
 (Builtin.append_ #[42, 42] 42 #[sw a19 k20 k21, Value.slice (at0 k63) 1 1]) (H40.upd k63 (Obj.cells #[iw n61] 3)) fun v64 H65 => ∃ a66 k67 k68, v64 = sw a66 k67 k68 /\ Vx.Sub H41 H65 /\ Triple prog 61 #[sw a66 k67 k68,
 sw none 0 0] H65 fun v69 H70 => ∃ a71 k72 k73, v69 = sw a71 k72 k73 /\ Vx.Sub H41 H70 /\ ∀ (k74 : Nat), H70 k74 = none -> Vx.Sub H41 (H70.upd k74 (Obj.cells #[Value.int IntKind.i64 n62] 3)) /\ Triple prog 60
 #[Value.pointer a1, Value.agg #[Value.int IntKind.i64 n42, Value.int IntKind.i64 n43, Value.int IntKind.i64 n44, Value.int IntKind.i64 n45, Value.string s46, Value.int IntKind.i64 n47, Value.int IntKind.i64 n48,
 Value.int IntKind.i64 n49, Value.int IntKind.i64 n50, Value.int IntKind.i64 n51, Value.slice a52 k53 k54, Value.slice a55 k56 k57, Value.slice a58 k59 k60], sw a71 k72 k73, Value.slice (at0 k74) 1 1, Value.func
 (Fn.func 62) #[] #[]] (H70.upd k74 (Obj.cells #[Value.int IntKind.i64 n62] 3)) fun v75 H76 => ∃ a77 k78 k79, v75 = Value.slice a77 k78 k79 /\ Q (Value.slice a77 k78 k79) H76)) /\ ((!b22) = !false ->
 Triple prog 21 #[.pointer a1] H18 fun v80 H81 => ∃ a82 k83 k84, v80 = sw a82 k83 k84 /\ Q (sw a82 k83 k84) H81)) /\ ((!b2) = !false -> Triple prog 21 #[.pointer a1] H18 fun v85 H86 =>
 ∃ a87 k88 k89, v85 = sw a87 k88 k89 /\ Q (sw a87 k88 k89) H86)) : Triple prog 24 ([.pointer a1]).toArray H Q := Triple.of_vc choMend.cx (by kernel_rfl) h
theorem choPurge.vc (a1 : Option Addr) (H : PHeap) (Q : Value -> PHeap -> Prop)
 (h : ∃ H2, Vx.Sub H2 H /\ Ob (a1 ≠ none) /\ Ob (a1 ≠ none) /\ Ob (fldA a1 26 ≠ none) /\ Ob (fldA (fldA a1 26) 2 ≠ none) /\ ∃ b3, Reads H2 (fldA (fldA (fldA a1 26) 2) 0) [.bool b3] /\ (b3 = false -> Ob (a1 ≠ none) /\
 Ob (a1 ≠ none) /\ Ob (fldA a1 26 ≠ none) /\ ∃ a4 k5 k6, Reads H2 (fldA (fldA a1 26) 7) [sw a4 k5 k6] /\ Ob (a1 ≠ none) /\ Ob (a1 ≠ none) /\ Ob (fldA a1 0 ≠ none) /\ ∃ n7, Reads H2 (fldA (fldA a1 0) 0) [iw n7] /\
 (decide ((k5 : Int) < n7) = true -> Triple prog 21 #[.pointer a1] H fun v8 H9 => ∃ a10 k11 k12, v8 = sw a10 k11 k12 /\ Q (sw a10 k11 k12) H9) /\ (decide ((k5 : Int) < n7) = false -> Ob (a1 ≠ none) /\ Ob (a1 ≠ none) /\
 Ob (fldA a1 7 ≠ none) /\ ∃ s13, Reads H (fldA (fldA a1 7) 1) [.string s13] /\ Triple prog 54 #[.pointer a1, Value.agg #[iw 8, iw 0, iw 0, iw 0, .string s13, iw 0, iw 0, iw 0, iw 0, iw 0,
 sw none 0 0, sw none 0 0, sw none 0 0], Value.func (Fn.func 62) #[] #[]] H fun v14 H15 => ∃ a16 k17 k18, v14 = sw a16 k17 k18 /\ Q (sw a16 k17 k18) H15)) /\
 (b3 = !false -> Triple prog 21 #[.pointer a1] H fun v19 H20 => ∃ a21 k22 k23, v19 = sw a21 k22 k23 /\ Q (sw a21 k22 k23) H20)) : Triple prog 25 ([.pointer a1]).toArray H Q := Triple.of_vc choPurge.cx (by kernel_rfl) h
theorem choGoes.vc (a1 : Option Addr) (a2 : Option Addr) (k3 k4 : Nat) (H : PHeap) (Q : Value -> PHeap -> Prop)
 (h : Ob (a1 ≠ none) /\ Ob (a1 ≠ none) /\ ∃ a5, Reads H (fldA a1 10) [.pointer a5] /\ Triple prog 68 #[.pointer a5] H fun v6 H7 => ∃ b8 b9 b10 n11 n12 n13 a14 k15 k16 a17 k18 k19 a20 k21 k22 b23, v6 = Value.tuple
 #[Value.agg #[.bool b8, .bool b9, .bool b10, iw n11, iw n12, iw n13, sw a14 k15 k16, sw a17 k18 k19, sw a20 k21 k22], .bool b23] /\ ((!b23) = true -> Q (sw a2 k3 k4) H7) /\ ((!b23) = false -> Ob (a1 ≠ none) /\
 Ob (a1 ≠ none) /\ ∃ H24, Writes H7 H24 (fldA a1 26) [.bool b8, .bool b9, .bool b10, iw n11, iw n12, iw n13, sw a14 k15 k16, sw a17 k18 k19, sw a20 k21 k22] /\
 ((!b8) = true -> Triple prog 21 #[.pointer a1] H24 fun v25 H26 => ∃ a27 k28 k29, v25 = sw a27 k28 k29 /\ Q (sw a2 k3 k4) H26) /\ ((!b8) = false -> Ob (a1 ≠ none) /\ Ob (a1 ≠ none) /\ ∃ v30,
 Reads H24 (fldA a1 25) [v30] /\ CallY prog v30 #[.pointer a1] H24 fun v31 H32 => ∃ a33 k34 k35, v31 = sw a33 k34 k35 /\ EvV prog (Builtin.append_ #[28, 28] 28 #[sw a2 k3 k4, sw a33 k34 k35]) H32 fun v36 H37 =>
 ∃ a38 k39 k40, v36 = sw a38 k39 k40 /\ Q (sw a38 k39 k40) H37))) : Triple prog 32 ([.pointer a1, sw a2 k3 k4]).toArray H Q := Triple.of_vc choGoes.cx (by kernel_rfl) h
theorem choRefuses.vc (a1 : Option Addr) (n2 n3 n4 n5 : Int) (s6 : ByteArray) (n7 n8 n9 n10 n11 : Int) (a12 : Option Addr) (k13 k14 : Nat) (a15 : Option Addr) (k16 k17 : Nat) (a18 : Option Addr) (k19 k20 : Nat) (H : PHeap) (Q : Value -> PHeap -> Prop)
 (h : ∃ H21, Vx.Sub H21 H /\ Ob (a1 ≠ none) /\ Ob (a1 ≠ none) /\ ∃ n22, Reads H21 (fldA a1 6) [iw n22] /\ ((n5 == n22) = true -> Ob (a1 ≠ none) /\ Ob (a1 ≠ none) /\ Ob (fldA a1 12 ≠ none) /\ ∃ s23,
 Reads H21 (fldA (fldA a1 12) 4) [.string s23] /\ (eqS s6 s23 = true -> Ob (a1 ≠ none) /\ Ob (a1 ≠ none) /\ Ob (fldA a1 12 ≠ none) /\ ∃ n24, Reads H21 (fldA (fldA a1 12) 0) [iw n24] /\ ∃ H25, Vx.Sub H25 H /\
 ((bif n2 == 16 then true else bif n2 == 19 then true else n2 == 24) = true -> ((n24 == 10) = true -> ((n11 == 10) = true -> Ob (a1 ≠ none) /\ Ob (a1 ≠ none) /\ Ob (fldA a1 12 ≠ none) /\ ∃ a26 k27 k28,
 Reads H25 (fldA (fldA a1 12) 10) [sw a26 k27 k28] /\ Triple prog 59 #[sw a26 k27 k28, iw n3] H fun v29 H30 => ∃ b31, v29 = .bool b31 /\ Vx.Sub H25 H30 /\ (b31 = false -> Ob (a1 ≠ none) /\ Ob (a1 ≠ none) /\
 Ob (fldA a1 7 ≠ none) /\ ∃ n32, Reads H25 (fldA (fldA a1 7) 2) [iw n32] /\ Q (.bool (n3 == n32)) H30) /\ (b31 = !false -> Q (.bool true) H30)) /\ ((n11 == 10) = !true -> Q (.bool false) H)) /\
 ((n24 == 10) = !true -> Q (.bool false) H)) /\ ((bif n2 == 16 then true else bif n2 == 19 then true else n2 == 24) = !true -> Q (.bool false) H)) /\
 (eqS s6 s23 = !true -> ∃ H33, Vx.Sub H33 H /\ Q (.bool (bif bif n2 == 16 then true else bif n2 == 19 then true else n2 == 24 then false else false)) H)) /\
 ((n5 == n22) = !true -> ∃ H34, Vx.Sub H34 H /\ Q (.bool (bif bif n2 == 16 then true else bif n2 == 19 then true else n2 == 24 then false else false)) H)) : Triple prog 42 ([.pointer a1, Value.agg
 #[iw n2, iw n3, iw n4, iw n5, .string s6, iw n7, iw n8, iw n9, iw n10, iw n11, sw a12 k13 k14, sw a15 k16 k17, sw a18 k19 k20]]).toArray H Q := Triple.of_vc choRefuses.cx (by kernel_rfl) h
theorem choTakes.vc (a1 : Option Addr) (n2 n3 n4 n5 : Int) (s6 : ByteArray) (n7 n8 n9 n10 n11 : Int) (a12 : Option Addr) (k13 k14 : Nat) (a15 : Option Addr) (k16 k17 : Nat) (a18 : Option Addr) (k19 k20 : Nat) (H : PHeap) (Q : Value -> PHeap -> Prop)
 (h : ∃ H21, Vx.Sub H21 H /\ Ob (a1 ≠ none) /\ Ob (a1 ≠ none) /\ ∃ n22, Reads H21 (fldA a1 6) [iw n22] /\ ((n5 != n22) = false -> Ob (a1 ≠ none) /\ Ob (a1 ≠ none) /\ Ob (fldA a1 12 ≠ none) /\ ∃ s23,
 Reads H21 (fldA (fldA a1 12) 4) [.string s23] /\ ((!eqS s6 s23) = true -> Q (.bool false) H) /\ ((!eqS s6 s23) = false -> Ob (a1 ≠ none) /\ Ob (a1 ≠ none) /\ Ob (fldA a1 12 ≠ none) /\ ∃ n24,
 Reads H (fldA (fldA a1 12) 0) [iw n24] /\ ((n24 == 6) = true -> Q (.bool (n2 == 20)) H) /\ ((n24 == 6) = false -> ((n24 == 7) = true -> Q (.bool (n2 == 21)) H) /\ ((n24 == 7) = false ->
 ((n24 == 10) = true -> Q (.bool (n2 == 25)) H) /\ ((n24 == 10) = false -> Q (.bool (bif n2 == 22 then true else bif n2 == 19 then n11 == 8 else false)) H))))) /\ ((n5 != n22) = !false -> Q (.bool false) H)) :
 Triple prog 43 ([.pointer a1, Value.agg #[iw n2, iw n3, iw n4, iw n5, .string s6, iw n7, iw n8, iw n9, iw n10, iw n11, sw a12 k13 k14, sw a15 k16 k17, sw a18 k19 k20]]).toArray H Q :=
 Triple.of_vc choTakes.cx (by kernel_rfl) h
theorem choAll.vc (a1 : Option Addr) (n2 n3 n4 n5 : Int) (s6 : ByteArray) (n7 n8 n9 n10 n11 : Int) (a12 : Option Addr) (k13 k14 : Nat) (a15 : Option Addr) (k16 k17 : Nat) (a18 : Option Addr) (k19 k20 : Nat) (v21 : Value) (H : PHeap) (Q : Value -> PHeap -> Prop)
 (h : ∃ H22, Vx.Sub H22 H /\ Ob (a1 ≠ none) /\ Ob (a1 ≠ none) /\ ∃ n23 n24 n25 n26 n27 n28, Reads H22 (fldA a1 0) [iw n23, iw n24, iw n25, iw n26, iw n27, iw n28] /\ Ob (a1 ≠ none) /\ Ob (a1 ≠ none) /\
 ∃ n29 n30 n31 n32 n33 n34, Reads H22 (fldA a1 0) [iw n29, iw n30, iw n31, iw n32, iw n33, iw n34] /\ Triple prog 85 #[.agg #[iw n23, iw n24, iw n25, iw n26, iw n27, iw n28]] H fun v35 H36 => ∃ a37 k38 k39,
 v35 = sw a37 k38 k39 /\ Vx.Sub H22 H36 /\ Triple prog 85 #[Value.agg #[iw n29, iw n30, iw n31, iw n32, iw n33, iw n34]] H36 fun v40 H41 => ∃ a42 k43 k44, v40 = sw a42 k43 k44 /\ Vx.Sub H22 H41 /\ Triple prog 60
 #[.pointer a1, Value.agg #[iw n2, iw n3, iw n4, iw n5, .string s6, iw n7, iw n8, iw n9, iw n10, iw n11, sw a12 k13 k14, sw a15 k16 k17, sw a18 k19 k20], sw a37 k38 k39, sw a42 k43 k44, v21]
 H41 fun v45 H46 => ∃ a47 k48 k49, v45 = sw a47 k48 k49 /\ Q (sw a47 k48 k49) H46) : Triple prog 54 ([.pointer a1, Value.agg #[iw n2, iw n3, iw n4, iw n5, .string s6, iw n7, iw n8,
 iw n9, iw n10, iw n11, sw a12 k13 k14, sw a15 k16 k17, sw a18 k19 k20], v21]).toArray H Q := Triple.of_vc choAll.cx (by kernel_rfl) h
theorem choListed.vc (a1 : Option Addr) (H : PHeap) (Q : Value -> PHeap -> Prop)
 (h : Ob (a1 ≠ none) /\ Ob (a1 ≠ none) /\ ∃ a2, Reads H (fldA a1 11) [.pointer a2] /\ Triple prog 86 #[.pointer a2] H fun v3 H4 => ∃ a5 k6 k7, v3 = sw a5 k6 k7 /\ ∃ H8, Vx.Sub H8 H4 /\ Ob (a1 ≠ none) /\
 Ob (a1 ≠ none) /\ Ob (a1 ≠ none) /\ Ob (a1 ≠ none) /\ ∃ n9 n10 n11 n12 n13 n14, Reads H8 (fldA a1 0) [iw n9, iw n10, iw n11, iw n12, iw n13, iw n14] /\ Triple prog 87 #[.pointer (fldA a1 35), Value.agg
 #[iw n9, iw n10, iw n11, iw n12, iw n13, iw n14], sw a5 k6 k7] H4 fun v15 H16 => ∃ b17, v15 = .bool b17 /\
 ((!b17) = true -> Triple prog 62 #[.pointer a1] H16 fun v18 H19 => ∃ a20 k21 k22, v18 = sw a20 k21 k22 /\ Q (sw a20 k21 k22) H19) /\ ((!b17) = false -> Ob (a1 ≠ none) /\ Ob (a1 ≠ none) /\
 Triple prog 88 #[.pointer (fldA a1 35), sw a5 k6 k7] H16 fun v23 H24 => ∃ b25, v23 = .bool b25 /\ ((!b25) = true -> Triple prog 22 #[.pointer a1] H24 fun v26 H27 =>
 ∃ a28 k29 k30, v26 = sw a28 k29 k30 /\ Q (sw a28 k29 k30) H27) /\ ((!b25) = false -> ∃ H31, Vx.Sub H31 H24 /\ Ob (a1 ≠ none) /\ Ob (a1 ≠ none) /\ Ob (a1 ≠ none) /\ Ob (a1 ≠ none) /\
 Triple prog 89 #[.pointer (fldA a1 35)] H24 fun v32 H33 => ∃ a34 k35 k36, v32 = sw a34 k35 k36 /\ Triple prog 90 #[.pointer (fldA a1 35)] H33 fun v37 H38 => ∃ a39 k40 k41, v37 = sw a39 k40 k41 /\ Ob (a1 ≠ none) /\
 Ob (a1 ≠ none) /\ ∃ H42, Writes H38 H42 (fldA a1 38) [sw a34 k35 k36] /\ Ob (a1 ≠ none) /\ Ob (a1 ≠ none) /\ ∃ H43, Writes H42 H43 (fldA a1 39) [sw a39 k40 k41] /\ Triple prog 91 #[.pointer a1] H43 fun v44 H45 =>
 ∃ a46 k47 k48, v44 = sw a46 k47 k48 /\ Q (sw a46 k47 k48) H45))) : Triple prog 56 ([.pointer a1]).toArray H Q := Triple.of_vc choListed.cx (by kernel_rfl) h
theorem choRound.vc (a1 : Option Addr) (n2 n3 n4 n5 : Int) (s6 : ByteArray) (n7 n8 n9 n10 n11 : Int) (a12 : Option Addr) (k13 k14 : Nat) (a15 : Option Addr) (k16 k17 : Nat) (a18 : Option Addr) (k19 k20 : Nat) (a21 : Option Addr) (k22 k23 : Nat) (a24 : Option Addr) (k25 k26 : Nat) (v27 : Value) (H : PHeap) (Q : Value -> PHeap -> Prop)
 (h : Ob (a1 ≠ none) /\ Ob (a1 ≠ none) /\ ∃ n28, Reads H (fldA a1 6) [iw n28] /\ ∃ (R29 : Rl) (M30 : Mu), R29 [sw none 0 0, iw 0, Value.agg #[iw n2, iw n3, iw n4, iw n28, .string s6, iw n7, iw n8,
 iw n9, iw n10, iw n11, sw a12 k13 k14, sw a15 k16 k17, sw a18 k19 k20]] H /\
 ∀ (a31 : Option Addr) (k32 k33 : Nat) (n34 n35 n36 n37 n38 : Int) (s39 : ByteArray) (n40 n41 n42 n43 n44 : Int) (a45 : Option Addr) (k46 k47 : Nat) (a48 : Option Addr) (k49 k50 : Nat)
 (a51 : Option Addr) (k52 k53 : Nat) (H54 : PHeap), R29 [sw a31 k32 k33, iw n34, Value.agg #[iw n35, iw n36, iw n37, iw n38, .string s39, iw n40, iw n41, iw n42, iw n43, iw n44, sw a45 k46 k47, sw a48 k49 k50,
 sw a51 k52 k53]] H54 -> (decide (n34 < (k22 : Int)) = true -> Ob (a21 ≠ none /\ 0 ≤ n34 /\ n34 < (k22 : Int)) /\ ∃ n55, Reads H54 (elemA a21 n34 1) [iw n55] /\ ∀ (k56 : Nat), H54 k56 = none ->
 EvV prog (Builtin.append_ #[28, 28] 28 #[sw a31 k32 k33, sw (at0 k56) 1 1]) (H54.upd k56 (Obj.cells #[iw n35, iw n36, iw n55, iw n38, .string s39, iw n40, iw n41, iw n42, iw n43, iw n44, sw a45 k46 k47, sw a48 k49 k50,
 sw a51 k52 k53] 52)) fun v57 H58 => ∃ a59 k60 k61, v57 = sw a59 k60 k61 /\ R29 [sw a59 k60 k61, iw (IntKind.i64.wrap (n34 + 1)), Value.agg #[iw n35, iw n36, iw n55, iw n38, .string s39, iw n40,
 iw n41, iw n42, iw n43, iw n44, sw a45 k46 k47, sw a48 k49 k50, sw a51 k52 k53]] H58 /\ Less (M30 [sw a59 k60 k61, iw (IntKind.i64.wrap (n34 + 1)), Value.agg #[iw n35, iw n36, iw n55, iw n38, .string s39, iw n40,
 iw n41, iw n42, iw n43, iw n44, sw a45 k46 k47, sw a48 k49 k50, sw a51 k52 k53]] H58) (M30 [sw a31 k32 k33, iw n34, Value.agg #[iw n35, iw n36, iw n37, iw n38, .string s39, iw n40,
 iw n41, iw n42, iw n43, iw n44, sw a45 k46 k47, sw a48 k49 k50, sw a51 k52 k53]] H54)) /\ (decide (n34 < (k22 : Int)) = false -> ∃ H62, Vx.Sub H62 H54 /\ Ob (a1 ≠ none) /\ Ob (a1 ≠ none) /\ Ob (fldA a1 0 ≠ none) /\
 ∃ n63, Reads H62 (fldA (fldA a1 0) 5) [iw n63] /\ Triple prog 100 #[iw n63, sw a31 k32 k33, sw a24 k25 k26] H54 fun v64 H65 => ∃ a66, v64 = .pointer a66 /\ Ob (a1 ≠ none) /\ Ob (a1 ≠ none) /\ ∃ H67,
 Writes H65 H67 (fldA a1 10) [.pointer none] /\ Ob (a1 ≠ none) /\ Ob (a1 ≠ none) /\ ∃ H68, Writes H67 H68 (fldA a1 11) [.pointer a66] /\ Ob (a1 ≠ none) /\ Ob (a1 ≠ none) /\ ∃ H69, Writes H68 H69 (fldA a1 12)
 [iw n35, iw n36, iw n37, iw n38, .string s39, iw n40, iw n41, iw n42, iw n43, iw n44, sw a45 k46 k47, sw a48 k49 k50, sw a51 k52 k53] /\
 Ob (a1 ≠ none) /\ Ob (a1 ≠ none) /\ Ob (okCell v27 = true) /\ ∃ H70, Writes H69 H70 (fldA a1 25) [v27] /\ Q (sw a31 k32 k33) H70)) : Triple prog 60 ([.pointer a1, Value.agg
 #[iw n2, iw n3, iw n4, iw n5, .string s6, iw n7, iw n8, iw n9, iw n10, iw n11, sw a12 k13 k14, sw a15 k16 k17, sw a18 k19 k20], sw a21 k22 k23, sw a24 k25 k26, v27]).toArray H Q :=
 Triple.of_vc choRound.cx (by kernel_rfl) h
theorem choAnswered.vc (a1 : Option Addr) (H : PHeap) (Q : Value -> PHeap -> Prop)
 (h : Ob (a1 ≠ none) /\ Ob (a1 ≠ none) /\ ∃ a2, Reads H (fldA a1 11) [.pointer a2] /\ Triple prog 45 #[.pointer a2] H fun v3 H4 => ∃ b5, v3 = .bool b5 /\
 (b5 = true -> Triple prog 21 #[.pointer a1] H4 fun v6 H7 => ∃ a8 k9 k10, v6 = sw a8 k9 k10 /\ Q (sw a8 k9 k10) H7) /\ (b5 = false -> Q (sw none 0 0) H4)) : Triple prog 62 ([.pointer a1]).toArray H Q :=
 Triple.of_vc choAnswered.cx (by kernel_rfl) h
theorem choName.vc (a1 : Option Addr) (H : PHeap) (Q : Value -> PHeap -> Prop)
 (h : Ob (a1 ≠ none) /\ Ob (a1 ≠ none) /\ ∃ a2 k3 k4, Reads H (fldA a1 38) [sw a2 k3 k4] /\ (decide ((k3 : Int) > 0) = true -> ∃ H5, Vx.Sub H5 H /\ Ob (a1 ≠ none) /\ Ob (a1 ≠ none) /\ ∃ a6 k7 k8,
 Reads H5 (fldA a1 38) [sw a6 k7 k8] /\ Ob (a6 ≠ none /\ (0 : Int) ≤ 0 /\ 0 < (k7 : Int)) /\ ∃ s9, Reads H5 (elemA a6 0 1) [.string s9] /\ Ob (a1 ≠ none) /\ Ob (a1 ≠ none) /\
 Triple prog 90 #[.pointer (fldA a1 35)] H fun v10 H11 => ∃ a12 k13 k14, v10 = sw a12 k13 k14 /\ Vx.Sub H5 H11 /\
 Triple prog 23 #[.pointer a1, .string s9, .bool (decide ((k13 : Int) > 0)), Value.func (Fn.func 134) #[] #[]] H11 fun v15 H16 => ∃ a17 k18 k19, v15 = sw a17 k18 k19 /\ Q (sw a17 k18 k19) H16) /\
 (decide ((k3 : Int) > 0) = false -> Ob (a1 ≠ none) /\ Ob (a1 ≠ none) /\ ∃ a20 k21 k22, Reads H (fldA a1 39) [sw a20 k21 k22] /\ (decide ((k21 : Int) > 0) = true -> ∃ H23, Vx.Sub H23 H /\ Ob (a1 ≠ none) /\
 Ob (a1 ≠ none) /\ ∃ a24 k25 k26, Reads H23 (fldA a1 39) [sw a24 k25 k26] /\ Ob (a1 ≠ none) /\ Ob (a1 ≠ none) /\ ∃ a27 k28 k29, Reads H23 (fldA a1 39) [sw a27 k28 k29] /\ Triple prog 60 #[.pointer a1, Value.agg
 #[iw 7, iw 0, iw 0, iw 0, .string ({ data := #[] } : ByteArray), iw 0, iw 0, iw 0, iw 0, iw 0, sw none 0 0, sw none 0 0, sw none 0 0], sw a24 k25 k26, sw a27 k28 k29, Value.func (Fn.func 62) #[] #[]]
 H fun v30 H31 => ∃ a32 k33 k34, v30 = sw a32 k33 k34 /\ Q (sw a32 k33 k34) H31) /\ (decide ((k21 : Int) > 0) = false ->
 Triple prog 21 #[.pointer a1] H fun v35 H36 => ∃ a37 k38 k39, v35 = sw a37 k38 k39 /\ Q (sw a37 k38 k39) H36))) : Triple prog 91 ([.pointer a1]).toArray H Q := Triple.of_vc choName.cx (by kernel_rfl) h
theorem choNamed.vc (a1 : Option Addr) (H : PHeap) (Q : Value -> PHeap -> Prop)
 (h : ∀ (k2 : Nat), H k2 = none -> ∃ a3, Reads (H.upd k2 (Obj.cells #[.pointer a1] 31)) (at0 k2) [.pointer a3] /\ Ob (a3 ≠ none) /\ Ob (a3 ≠ none) /\ ∃ a4 k5 k6,
 Reads (H.upd k2 (Obj.cells #[.pointer a1] 31)) (fldA a3 38) [sw a4 k5 k6] /\ Ob (a4 ≠ none /\ (0 : Int) ≤ 0 /\ 0 < (k5 : Int)) /\ ∃ s7, Reads (H.upd k2 (Obj.cells #[.pointer a1] 31)) (elemA a4 0 1) [.string s7] /\
 ∃ H8, Vx.Sub H8 (H.upd k2 (Obj.cells #[.pointer a1] 31)) /\ ∃ a9, Reads H8 (at0 k2) [.pointer a9] /\ ∃ a10, Reads H8 (at0 k2) [.pointer a10] /\ Ob (a10 ≠ none) /\ Ob (a10 ≠ none) /\ ∃ a11 k12 k13,
 Reads H8 (fldA a10 38) [sw a11 k12 k13] /\ Ob ((0 : Int) ≤ 1 /\ 1 ≤ (k12 : Int) /\ (k12 : Int) ≤ (k13 : Int)) /\ Ob (a9 ≠ none) /\ Ob (a9 ≠ none) /\ ∃ H14,
 Writes (H.upd k2 (Obj.cells #[.pointer a1] 31)) H14 (fldA a9 38) [sw (slA a11 1 k13 1) ((k12 : Int).toNat - Int.toNat 1) (k13 - Int.toNat 1)] /\ ∃ a15, Reads H14 (at0 k2) [.pointer a15] /\ Ob (a15 ≠ none) /\
 Ob (a15 ≠ none) /\ Ob (fldA a15 26 ≠ none) /\ ∃ b16, Reads H14 (fldA (fldA a15 26) 1) [.bool b16] /\ (b16 = true -> ∃ H17, Vx.Sub H17 H14 /\ ∃ a18, Reads H17 (at0 k2) [.pointer a18] /\ ∃ a19,
 Reads H17 (at0 k2) [.pointer a19] /\ Ob (a19 ≠ none) /\ Ob (a19 ≠ none) /\ ∃ a20 k21 k22, Reads H17 (fldA a19 39) [sw a20 k21 k22] /\ Triple prog 137 #[sw a20 k21 k22, Value.func (Fn.func 154) #[] #[.pointer (at0 k2)]]
 H14 fun v23 H24 => ∃ a25 k26 k27, v23 = sw a25 k26 k27 /\ Vx.Sub H17 H24 /\ Ob (a18 ≠ none) /\ Ob (a18 ≠ none) /\ ∃ H28, Writes H24 H28 (fldA a18 39) [sw a25 k26 k27] /\ ∃ a29, Reads H28 (at0 k2) [.pointer a29] /\
 Ob (a29 ≠ none) /\ Ob (a29 ≠ none) /\ Ob (fldA a29 26 ≠ none) /\ Ob (fldA (fldA a29 26) 2 ≠ none) /\ ∃ b30, Reads H28 (fldA (fldA (fldA a29 26) 2) 0) [.bool b30] /\ (b30 = true -> ∃ H31, Vx.Sub H31 H28 /\ ∃ a32,
 Reads H31 (at0 k2) [.pointer a32] /\ Ob (a32 ≠ none) /\ Ob (a32 ≠ none) /\ ∃ n33 n34 n35 n36 n37 n38, Reads H31 (fldA a32 0) [iw n33, iw n34, iw n35, iw n36, iw n37, iw n38] /\ ∃ a39, Reads H31 (at0 k2)
 [.pointer a39] /\ Ob (a39 ≠ none) /\ Ob (a39 ≠ none) /\ Ob (fldA a39 26 ≠ none) /\ ∃ a40 k41 k42, Reads H31 (fldA (fldA a39 26) 6) [sw a40 k41 k42] /\ Triple prog 156 #[Value.agg #[iw n33, iw n34, iw n35, iw n36,
 iw n37, iw n38], sw a40 k41 k42] H28 fun v43 H44 => ∃ a45 k46 k47, v43 = sw a45 k46 k47 /\ ∃ (R48 : Rl) (M49 : Mu), R48 [iw 0] H44 /\ ∀ (n50 : Int) (H51 : PHeap), R48 [iw n50] H51 -> (decide (n50 < (k46 : Int)) =
 true -> Ob (a45 ≠ none /\ 0 ≤ n50 /\ n50 < (k46 : Int)) /\ ∃ n52, Reads H51 (elemA a45 n50 1) [Value.int IntKind.i64 n52] /\ ∃ H53, Vx.Sub H53 H51 /\ ∃ a54, Reads H53 (at0 k2) [Value.pointer a54] /\ Ob (a54 ≠ none) /\
 Ob (a54 ≠ none) /\ ∃ n55 n56 n57 n58 n59 n60, Reads H53 (fldA a54 0) [Value.int IntKind.i64 n55, Value.int IntKind.i64 n56, Value.int IntKind.i64 n57, Value.int IntKind.i64 n58, Value.int IntKind.i64 n59, Value.int
 IntKind.i64 n60] /\ ∃ a61, Reads H53 (at0 k2) [Value.pointer a61] /\ Ob (a61 ≠ none) /\ Ob (a61 ≠ none) /\ Ob (fldA a61 26 ≠ none) /\ ∃ a62 k63 k64, Reads H53 (fldA (fldA a61 26) 6) [Value.slice a62 k63 k64] /\ Triple
 prog 58 #[Value.agg #[Value.int IntKind.i64 n55, Value.int IntKind.i64 n56, Value.int IntKind.i64 n57, Value.int IntKind.i64 n58, Value.int IntKind.i64 n59, Value.int IntKind.i64 n60], Value.slice a62 k63 k64,
 Value.int IntKind.i64 n52] H51 fun v65 H66 => ∃ a67 k68 k69 b70, v65 = Value.tuple #[Value.slice a67 k68 k69, Value.bool b70] /\ (b70 = true -> Triple prog 155 #[Value.agg #[Value.int IntKind.i64 2, Value.string s7,
 Value.int IntKind.i64 n52], Value.pointer (at0 k2)] H66 fun v71 H72 => v71 = Value.tuple #[] /\ R48 [Value.int IntKind.i64 (IntKind.i64.wrap (n50 + 1))] H72 /\ Less (M49 [Value.int IntKind.i64 (IntKind.i64.wrap (n50 +
 1))] H72) (M49 [Value.int IntKind.i64 n50] H51)) /\ (b70 = false -> R48 [Value.int IntKind.i64 (IntKind.i64.wrap (n50 + 1))] H66 /\ Less (M49 [Value.int IntKind.i64 (IntKind.i64.wrap (n50 + 1))] H66) (M49 [Value.int
 IntKind.i64 n50] H51))) /\ (decide (n50 < (k46 : Int)) = false -> ∃ a73, Reads H51 (at0 k2) [Value.pointer a73] /\ Triple prog 91 #[.pointer a73] H51 fun v74 H75 => ∃ a76 k77 k78, v74 = Value.slice a76 k77 k78 /\ Q
 (Value.slice a76 k77 k78) H75)) /\ (b30 = false -> ∃ H79, Vx.Sub H79 H28 /\ ∃ a80, Reads H79 (at0 k2) [.pointer a80] /\ Ob (a80 ≠ none) /\ Ob (a80 ≠ none) /\ ∃ n81 n82 n83 n84 n85 n86, Reads H79 (fldA a80 0)
 [iw n81, iw n82, iw n83, iw n84, iw n85, iw n86] /\ ∃ a87, Reads H79 (at0 k2) [.pointer a87] /\ Ob (a87 ≠ none) /\ Ob (a87 ≠ none) /\ Ob (fldA a87 26 ≠ none) /\ ∃ a88 k89 k90, Reads H79 (fldA (fldA a87 26) 8)
 [sw a88 k89 k90] /\ Triple prog 157 #[Value.agg #[iw n81, iw n82, iw n83, iw n84, iw n85, iw n86], sw a88 k89 k90] H28 fun v91 H92 => ∃ b93, v91 = .bool b93 /\ (b93 = true -> Triple prog 155 #[Value.agg #[iw 3,
 .string s7, iw 0], Value.pointer (at0 k2)] H92 fun v94 H95 => v94 = .tuple #[] /\ ∃ a96, Reads H95 (at0 k2) [.pointer a96] /\ Triple prog 91 #[.pointer a96] H95 fun v97 H98 => ∃ a99 k100 k101, v97 = sw a99 k100 k101 /\
 Q (sw a99 k100 k101) H98) /\ (b93 = false -> ∃ a102, Reads H92 (at0 k2) [.pointer a102] /\ Triple prog 91 #[.pointer a102] H92 fun v103 H104 => ∃ a105 k106 k107, v103 = sw a105 k106 k107 /\ Q (sw a105 k106 k107)
 H104))) /\ (b16 = false -> ∃ a108, Reads H14 (at0 k2) [.pointer a108] /\ Ob (a108 ≠ none) /\ Ob (a108 ≠ none) /\ Ob (fldA a108 26 ≠ none) /\ Ob (fldA (fldA a108 26) 2 ≠ none) /\ ∃ b109,
 Reads H14 (fldA (fldA (fldA a108 26) 2) 0) [.bool b109] /\ (b109 = true -> ∃ H110, Vx.Sub H110 H14 /\ ∃ a111, Reads H110 (at0 k2) [.pointer a111] /\ Ob (a111 ≠ none) /\ Ob (a111 ≠ none) /\
 ∃ n112 n113 n114 n115 n116 n117, Reads H110 (fldA a111 0) [iw n112, iw n113, iw n114, iw n115, iw n116, iw n117] /\ ∃ a118, Reads H110 (at0 k2) [.pointer a118] /\ Ob (a118 ≠ none) /\ Ob (a118 ≠ none) /\
 Ob (fldA a118 26 ≠ none) /\ ∃ a119 k120 k121, Reads H110 (fldA (fldA a118 26) 6) [sw a119 k120 k121] /\ Triple prog 156 #[Value.agg #[iw n112, iw n113, iw n114, iw n115, iw n116, iw n117], sw a119 k120 k121]
 H14 fun v122 H123 => ∃ a124 k125 k126, v122 = sw a124 k125 k126 /\ ∃ (R127 : Rl) (M128 : Mu), R127 [iw 0] H123 /\ ∀ (n129 : Int) (H130 : PHeap), R127 [iw n129] H130 -> (decide (n129 < (k125 : Int)) = true ->
 Ob (a124 ≠ none /\ 0 ≤ n129 /\ n129 < (k125 : Int)) /\ ∃ n131, Reads H130 (elemA a124 n129 1) [iw n131] /\ ∃ H132, Vx.Sub H132 H130 /\ ∃ a133, Reads H132 (at0 k2) [.pointer a133] /\ Ob (a133 ≠ none) /\
 Ob (a133 ≠ none) /\ ∃ n134 n135 n136 n137 n138 n139, Reads H132 (fldA a133 0) [iw n134, iw n135, iw n136, iw n137, iw n138, iw n139] /\ ∃ a140, Reads H132 (at0 k2) [.pointer a140] /\ Ob (a140 ≠ none) /\
 Ob (a140 ≠ none) /\ Ob (fldA a140 26 ≠ none) /\ ∃ a141 k142 k143, Reads H132 (fldA (fldA a140 26) 6) [sw a141 k142 k143] /\ Triple prog 58 #[Value.agg #[Value.int IntKind.i64 n134, Value.int IntKind.i64 n135, Value.int
 IntKind.i64 n136, Value.int IntKind.i64 n137, Value.int IntKind.i64 n138, Value.int IntKind.i64 n139], sw a141 k142 k143, Value.int IntKind.i64 n131] H130 fun v144 H145 => ∃ a146 k147 k148 b149, v144 = Value.tuple
 #[Value.slice a146 k147 k148, Value.bool b149] /\ (b149 = true -> Triple prog 155 #[Value.agg #[Value.int IntKind.i64 2, Value.string s7, Value.int IntKind.i64 n131], Value.pointer (at0 k2)] H145 fun v150 H151 =>
 v150 = Value.tuple #[] /\ R127 [Value.int IntKind.i64 (IntKind.i64.wrap (n129 + 1))] H151 /\ Less (M128 [Value.int IntKind.i64 (IntKind.i64.wrap (n129 + 1))] H151) (M128 [Value.int IntKind.i64 n129] H130)) /\
 (b149 = false -> R127 [Value.int IntKind.i64 (IntKind.i64.wrap (n129 + 1))] H145 /\ Less (M128 [Value.int IntKind.i64 (IntKind.i64.wrap (n129 + 1))] H145) (M128 [Value.int IntKind.i64 n129] H130))) /\
 (decide (n129 < (k125 : Int)) = false -> ∃ a152, Reads H130 (at0 k2) [.pointer a152] /\ Triple prog 91 #[.pointer a152] H130 fun v153 H154 => ∃ a155 k156 k157, v153 = sw a155 k156 k157 /\
 Q (sw a155 k156 k157) H154)) /\ (b109 = false -> ∃ H158, Vx.Sub H158 H14 /\ ∃ a159, Reads H158 (at0 k2) [.pointer a159] /\ Ob (a159 ≠ none) /\ Ob (a159 ≠ none) /\ ∃ n160 n161 n162 n163 n164 n165,
 Reads H158 (fldA a159 0) [iw n160, iw n161, iw n162, iw n163, iw n164, iw n165] /\ ∃ a166, Reads H158 (at0 k2) [.pointer a166] /\ Ob (a166 ≠ none) /\ Ob (a166 ≠ none) /\ Ob (fldA a166 26 ≠ none) /\ ∃ a167 k168 k169,
 Reads H158 (fldA (fldA a166 26) 8) [sw a167 k168 k169] /\ Triple prog 157 #[Value.agg #[iw n160, iw n161, iw n162, iw n163, iw n164, iw n165], sw a167 k168 k169] H14 fun v170 H171 => ∃ b172, v170 = .bool b172 /\
 (b172 = true -> Triple prog 155 #[Value.agg #[iw 3, .string s7, iw 0], .pointer (at0 k2)] H171 fun v173 H174 => v173 = .tuple #[] /\ ∃ a175, Reads H174 (at0 k2) [.pointer a175] /\ Triple prog 91 #[.pointer a175] H174
 fun v176 H177 => ∃ a178 k179 k180, v176 = sw a178 k179 k180 /\ Q (sw a178 k179 k180) H177) /\ (b172 = false -> ∃ a181, Reads H171 (at0 k2) [.pointer a181] /\ Triple prog 91 #[.pointer a181] H171 fun v182 H183 =>
 ∃ a184 k185 k186, v182 = sw a184 k185 k186 /\ Q (sw a184 k185 k186) H183)))) : Triple prog 134 ([.pointer a1]).toArray H Q := Triple.of_vc choNamed.cx (by kernel_rfl) h
theorem choNamed1.vc (n1 : Int) (a2 : Option Addr) (H : PHeap) (Q : Value -> PHeap -> Prop)
 (h : ∃ a3, Reads H a2 [.pointer a3] /\ Ob (a3 ≠ none) /\ Ob (a3 ≠ none) /\ Ob (fldA a3 26 ≠ none) /\ ∃ a4 k5 k6, Reads H (fldA (fldA a3 26) 7) [sw a4 k5 k6] /\
 Triple prog 59 #[sw a4 k5 k6, iw n1] H fun v7 H8 => ∃ b9, v7 = .bool b9 /\ Q (.bool !b9) H8) : Triple prog 154 ([iw n1, .pointer a2]).toArray H Q := Triple.of_vc choNamed1.cx (by kernel_rfl) h
theorem choNamed2.vc (n1 : Int) (s2 : ByteArray) (n3 : Int) (a4 : Option Addr) (H : PHeap) (Q : Value -> PHeap -> Prop)
 (h : ∃ H5, Vx.Sub H5 H /\ ∃ a6, Reads H5 a4 [.pointer a6] /\ ∃ a7, Reads H5 a4 [.pointer a7] /\ Ob (a7 ≠ none) /\ Ob (a7 ≠ none) /\ ∃ a8 k9 k10, Reads H5 (fldA a7 40) [sw a8 k9 k10] /\ ∀ (k11 : Nat), H k11 = none ->
 Vx.Sub H5 (H.upd k11 (Obj.cells #[iw n1, .string s2, iw n3] 34)) /\ EvV prog (Builtin.append_ #[38, 38] 38 #[sw a8 k9 k10, sw (at0 k11) 1 1]) (H.upd k11 (Obj.cells #[iw n1, .string s2, iw n3] 34)) fun v12 H13 =>
 ∃ a14 k15 k16, v12 = sw a14 k15 k16 /\ Vx.Sub H5 H13 /\ Ob (a6 ≠ none) /\ Ob (a6 ≠ none) /\ ∃ H17, Writes H13 H17 (fldA a6 40) [sw a14 k15 k16] /\ Q (.tuple #[]) H17) :
 Triple prog 155 ([.agg #[iw n1, .string s2, iw n3], .pointer a4]).toArray H Q := Triple.of_vc choNamed2.cx (by kernel_rfl) h
theorem cloneC.vc (a1 : Option Addr) (k2 k3 : Nat) (H : PHeap) (Q : Value -> PHeap -> Prop)
 (h : (a1.isNone = true -> Q (sw none 0 0) H) /\ (a1.isNone = false -> ∀ (k4 : Nat), H k4 = none -> EvV prog (Builtin.append_ #[38, 38] 38 #[sw (at0 k4) 0 0, sw a1 k2 k3]) (H.upd k4 (Obj.cells #[] 34)) fun v5 H6 =>
 ∃ a7 k8 k9, v5 = sw a7 k8 k9 /\ Q (sw a7 k8 k9) H6)) : Triple prog 30 ([sw a1 k2 k3]).toArray H Q := Triple.of_vc cloneC.cx (by kernel_rfl) h
end Go.Vc
