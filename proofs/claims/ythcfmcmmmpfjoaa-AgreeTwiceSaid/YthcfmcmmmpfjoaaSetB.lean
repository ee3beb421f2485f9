/- What counts: the contract of settle.Settle. -/
import Derived.Test.YthcfmcmmmpfjoaaSetA
namespace Go.Stl
open Go.Vx Go.Vc Go.Proofs Go.Pln

abbrev Verd.cs (w : Verd) (b : Option Addr) (n c : Nat) : List Value := [.bool w.enough, .bool w.clean, .bool w.value.pr, vI w.value.at_, vI w.value.ep, vI w.value.sz, vI w.mark, .slice b n c]
/-- A verdict lies in a variable of its own. -/
structure VS (t : TypeId) (F H : PHeap) (k : Nat) (w : Verd) : Prop where
  sub : Sub F H
  off : F k = none
  row : ∃ b n c, Bx H k t (w.cs b n c) ∧ OwnL H 3 iE 1 b n c w.holders ∧ Off F b ∧ ∀ a, b = some a → a.block ≠ k
theorem VS.mono {t : TypeId} {F H H' : PHeap} {k : Nat} {w : Verd} (h : VS t F H k w) (hs : Sub H H') : VS t F H' k w := by
  obtain ⟨s, o, b, n, c, h1, h2, h3, h4⟩ := h
  exact ⟨s.trans hs, o, b, n, c, h1.sub hs, h2.mono fun a o _ ho => hs.le _ _ ho, h3, h4⟩
theorem VS.put {t : TypeId} {F H : PHeap} {k : Nat} {w : Verd} (h : VS t F H k w) {w' : Verd} {i : Nat} {x : Value} (he : ∀ b n c, (w.cs b n c).set i x = w'.cs b n c) (hh : w'.holders = w.holders) (hi : i < 8) :
    ∃ H', Writes H H' (fldA (at0 k) i) [x] ∧ VS t F H' k w' := by
  obtain ⟨s, o, b, n, c, h1, h2, h3, h4⟩ := h
  have hw := h1.put (i := i) (x := x) hi
  rw [he] at hw
  exact ⟨_, hw, s.wr o, o, b, n, c, Bx.new H k t _, by rw [hh]; exact h2.mono fun a o ha ho => by rw [Vx.upd_ne _ _ (h4 a ha)]; exact ho, h3, h4⟩
theorem VS.val {t : TypeId} {F H : PHeap} {k : Nat} {w : Verd} (h : VS t F H k w) (v : Val) : ∃ H', Writes H H' (fldA (at0 k) 2) v.c ∧ VS t F H' k ⟨w.enough, w.clean, v, w.mark, w.holders⟩ := by
  obtain ⟨s, o, b, n, c, h1, h2, h3, h4⟩ := h
  have hw := (h1.writes ((⟨w.enough, w.clean, v, w.mark, w.holders⟩ : Verd).cs b n c) rfl).part (A := [.bool w.enough, .bool w.clean]) (l2 := v.c) (B := [vI w.mark, .slice b n c]) (old := w.value.c) h1.reads rfl
  exact ⟨_, hw, s.wr o, o, b, n, c, Bx.new H k t _, h2.mono fun a o ha ho => by rw [Vx.upd_ne _ _ (h4 a ha)]; exact ho, h3, h4⟩
theorem VS.app {t : TypeId} {F H H' : PHeap} {k : Nat} {w : Verd} {b b' : Option Addr} {n c n' c' : Nat} {l' : List Int} (s : Sub F H) (o : F k = none) (h1 : Bx H k t (w.cs b n c)) (h3 : Off F b) (h4 : ∀ a, b = some a → a.block ≠ k)
    (hw : OwnL H' 3 iE 1 b' n' c' l') (hf : Vx.Frame b H H') (hfr : Vx.Fresh b b' H) : ∃ H3, Writes H' H3 (fldA (at0 k) 7) [.slice b' n' c'] ∧ VS t F H3 k ⟨w.enough, w.clean, w.value, w.mark, l'⟩ := by
  have b1 := hf.bx h1 h4
  have hne := hfr.ne h1 h4
  exact ⟨_, b1.put (i := 7) (x := .slice b' n' c') (by show 7 < 8; decide), (hf.sub s h3).wr o, o, b', n', c', Bx.new _ k t _, hw.mono fun a o ha ho => by rw [Vx.upd_ne _ _ (hne a ha)]; exact ho, hfr.off s h3, hne⟩
theorem VS.mk6 {t : TypeId} {F H : PHeap} {k : Nat} {w : Verd} (h : VS t F H k w) : Reads H (fldA (at0 k) 6) [vI w.mark] := by
  obtain ⟨s, o, b, n, c, h1, h2, h3, h4⟩ := h
  exact h1.fld rfl
theorem VS.val2 {t : TypeId} {F H : PHeap} {k : Nat} {w : Verd} (h : VS t F H k w) : Reads H (fldA (at0 k) 2) w.value.c := by
  obtain ⟨s, o, b, n, c, h1, h2, h3, h4⟩ := h
  exact h1.readsAt 2 fun j v hv => by
    match j, hv with
    | 0, hv => exact hv
    | 1, hv => exact hv
    | 2, hv => exact hv
    | 3, hv => exact hv
    | j + 4, hv => simp at hv
/-- A verdict is handed out. -/
abbrev GivesV (w : Verd) (H : PHeap) (v : Value) (H' : PHeap) : Prop := ∃ b n c, v = .agg (w.cs b n c).toArray ∧ OwnL H' 3 iE 1 b n c w.holders ∧ Sub H H' ∧ Off H b
theorem VS.done {t : TypeId} {F H : PHeap} {k : Nat} {w : Verd} (h : VS t F H k w) : ∃ b n c, Reads H (at0 k) (w.cs b n c) ∧ GivesV w F (.agg (w.cs b n c).toArray) H := by
  obtain ⟨s, o, b, n, c, h1, h2, h3, h4⟩ := h
  exact ⟨b, n, c, h1.reads, b, n, c, rfl, h2, s, h3⟩
theorem VS.start {t : TypeId} {H : PHeap} {k : Nat} (hk : H k = none) : VS t H (H.upd k (.cells (verd0.cs none 0 0).toArray t (0, 0))) k verd0 :=
  ⟨Sub.upd _ hk, hk, none, 0, 0, Bx.new H k t _, Owns.nil _ _ 1, Off.none _, fun a h => by cases h⟩

def verdW (p : Plan) (L : List Msg) (h : List Int) : Verd :=
    ⟨decide ((cntM soundM L : Int) ≥ p.n - p.w + 1), cntM leftM L == 0 && ((best L).1 == 0 || decide ((cntM (fun m => markedM m && mark_ m == (best L).1) L : Int) ≥ p.w)), (best L).2, (best L).1, h⟩
theorem verd_ok {p : Plan} {L : List Msg} (e : p.ok = true) : verd p L = verdW p L (holdL (best L).2 (L.filter fun m => kind_ m == 14)) := if_pos e
theorem verd_no {p : Plan} {L : List Msg} (e : p.ok = false) : verd p L = verd0 := if_neg (by rw [e]; decide)
theorem f14_snoc (L : List Msg) (m : Msg) (v : Val) : holdL v ((L ++ [m]).filter fun m => kind_ m == 14) = holdL v (L.filter fun m => kind_ m == 14) ++ if kind_ m == 14 then holdL v [m] else [] := by
  rw [List.filter_append]
  cases h : kind_ m == 14
  · simp [h]
  · simp only [List.filter_cons, h, if_true, List.filter_nil]
    unfold holdL
    rw [List.filter_append, List.map_append]
theorem f14_len (v : Val) (L : List Msg) : (holdL v (L.filter fun m => kind_ m == 14)).length ≤ L.length := Nat.le_trans (hold_len v _) (List.length_filter_le ..)

theorem fsRd {H : PHeap} {k : Nat} {t : TypeId} {fs : List Value} (h : Bx H k t fs) : RdL H fE 1 (at0 k) fs.length fs :=
  Bx.rd (E := fE) (fun _ => rfl) (by rw [show fs.flatMap fE = fs by induction fs with | nil => rfl | cons x l ih => simp [fE]]; exact h)
abbrev tSV : TypeId := 81
theorem sSettle_ok {H : PHeap} {p : Plan} {oa : Option Addr} {n c : Nat} {L : List Msg} (hl : RdL H mE 13 oa n L) (hw : ∀ x ∈ L, RdL H iE 1 (who_ x).oa (who_ x).n (who_ x).l) (hn : n ≤ 100000) :
    Triple Try.prog 41 #[p.v, .slice oa n c] H (GivesV (verd p L) H) := by
  have hll := hl.len
  refine sSettle.vc p.n p.t p.l p.w p.s p.r oa n c H _ fun k hk => ?_
  have v0 : VS tSV H _ k verd0 := VS.start hk
  refine (right_ok p).use ⟨_, rfl, fun e => ?_, fun e => ?_⟩
  · obtain ⟨b, m, q, hr, hg⟩ := v0.done
    rw [verd_no (by simpa using e)]
    exact ⟨_, _, _, _, _, _, _, _, _, _, hr, hg⟩
  have e' : p.ok = true := by simpa using e
  have pok := Plan.ok_iff.1 e'
  rw [verd_ok e']
  refine ⟨fun t H' => match t with | [.int _ i] => 0 ≤ i ∧ i ≤ n ∧ VS tSV H H' k ⟨false, false, (best (L.take i.toNat)).2, (best (L.take i.toNat)).1, []⟩ | _ => False, fun t _ => match t with | [.int _ i] => (n - i).toNat | _ => 0, ⟨by omega, by omega, v0⟩, ?_⟩
  rintro i H27 ⟨i0, i1, vs⟩
  obtain ⟨i, rfl⟩ : ∃ j : Nat, i = j := ⟨i.toNat, by omega⟩
  rw [Int.toNat_natCast] at vs
  refine ⟨fun hi => ?_, fun hi => ?_⟩
  · have hi' : i < n := by simpa using hi
    obtain ⟨x, hx, hxr⟩ := (hl.mono vs.sub).ex (i := (i : Int)) (by omega) (by omega)
    rw [Int.toNat_natCast] at hx
    have hst : best (L.take (i + 1)) = bestStep (best (L.take i)) x := by rw [List.take_add_one, hx]; exact best_snoc _ _
    have hva := sValue_ok x
    have hmk : ∀ y8, mark_ x = y8 → bestStep (best (L.take i)) x = if markedM x && decide (y8 > (best (L.take i)).1) then (y8, valueM x) else best (L.take i) := by rintro _ rfl; rfl
    generalize valueM x = va at hva hmk
    generalize markedM x = mk at hva hmk
    obtain ⟨y1, y2, y3, y4, y5, y6, y7, y8, y9, y10, ⟨ya, yb, yc, yl⟩, ⟨za, zb, zc, zl⟩, ⟨wa, wb, wc, wl⟩⟩ := x
    have hmk' := hmk y8 rfl
    rw [Rnd.wrapS (by omega) (by omega)]
    refine ⟨(hl.mono vs.sub).ob (by omega) (by omega), y1, y2, y3, y4, y5, y6, y7, y8, y9, y10, ya, yb, yc, za, zb, zc, wa, wb, wc, hxr, hva.use ⟨_, _, _, _, _, rfl, fun e1 => ?_, fun e1 => ?_⟩⟩
    · refine ⟨obP k, _, vs.mk6, fun e2 => ?_, fun e2 => ?_⟩
      · rw [e1, e2] at hmk'
        obtain ⟨H56, w56, vs56⟩ := vs.put (w' := ⟨false, false, (best (L.take i)).2, y8, []⟩) (i := 6) (x := vI y8) (fun _ _ _ => rfl) rfl (by decide)
        obtain ⟨H57, w57, vs57⟩ := vs56.val va
        refine ⟨H, vs.sub, obP k, H56, w56, vs56.sub, obP k, H57, w57, ⟨by omega, by omega, ?_⟩, ⟨by simp only; omega⟩⟩
        rw [show ((i : Int) + 1).toNat = i + 1 by omega, hst, hmk']; exact vs57
      · rw [e1, e2] at hmk'
        refine ⟨⟨by omega, by omega, ?_⟩, ⟨by simp only; omega⟩⟩
        rw [show ((i : Int) + 1).toNat = i + 1 by omega, hst, hmk']; exact vs
    · have e1' : mk = false := by simpa using e1
      rw [e1'] at hmk'
      refine ⟨⟨by omega, by omega, ?_⟩, ⟨by simp only; omega⟩⟩
      rw [show ((i : Int) + 1).toNat = i + 1 by omega, hst, hmk']; exact vs
  · have hi' : ¬ i < n := by simpa using hi
    rw [List.take_of_length_le (by omega)] at vs
    have cl : ∀ p : Msg → Bool, (cntM p L : Int) ≤ n := fun p => by have := cnt_le p L; omega
    have hone : ∀ p : Msg → Bool, cntM (fun x => [p].all fun p => p x) L = cntM p L := fun p => by simp
    refine ⟨H27, Sub.refl _, fun k59 hk59 => ⟨Sub.upd _ hk59, ?_⟩⟩
    have s59 : Sub H27 (H27.upd k59 (Obj.cells #[Value.func (Fn.func 65) #[] #[]] 60)) := Sub.upd _ hk59
    have b59 : Bx (H27.upd k59 (Obj.cells #[Value.func (Fn.func 65) #[] #[]] 60)) k59 60 [Value.func (Fn.func 65) #[] #[]] := Bx.new H27 k59 _ _
    refine (count_ok (fs := [Value.func (Fn.func 65) #[] #[]]) (ps := [soundM]) ((hl.mono vs.sub).mono s59) (fsRd b59) rfl hn (by decide) fun j f q h1 h2 x hx Q hQ => ?_).mono ?_
    · match j, h1, h2 with
      | 0, h1, h2 =>
        simp at h1 h2; subst h1 h2
        refine CallY.fn (by kernel_rfl) ((sSound_ok (((hw x hx).mono vs.sub).mono s59)).mono ?_)
        rintro _ H' ⟨rfl, hH⟩
        rw [hH]; exact hQ
      | j + 1, h1, h2 => simp at h1
    rintro _ H61 ⟨rfl, hH⟩
    rw [hone, hH]
    refine ⟨_, rfl, s59, (quorum_ok _ p).mono ?_⟩
    rintro _ H64 ⟨rfl, s64⟩
    rw [if_pos e']
    refine ⟨_, rfl, obP k, ?_⟩
    have vs61 := (vs.mono s59).mono s64
    obtain ⟨H66, w66, vs66⟩ := vs61.put (w' := ⟨decide ((cntM soundM L : Int) ≥ p.n - p.w + 1), false, (best L).2, (best L).1, []⟩) (i := 0) (x := .bool (decide ((cntM soundM L : Int) ≥ p.n - p.w + 1))) (fun _ _ _ => rfl) rfl (by decide)
    refine ⟨H66, w66, ?_⟩
    apply both (C := fun H' => VS tSV H H' k (verdW p L []))
    · intro key
      refine ⟨H66, Sub.refl _, fun k68 hk68 => ⟨Sub.upd _ hk68, ?_⟩⟩
      have s68 : Sub H66 (H66.upd k68 (Obj.cells #[Value.func (Fn.func 67) #[] #[]] 60)) := Sub.upd _ hk68
      have b68 : Bx (H66.upd k68 (Obj.cells #[Value.func (Fn.func 67) #[] #[]] 60)) k68 60 [Value.func (Fn.func 67) #[] #[]] := Bx.new H66 k68 _ _
      have vs68 := vs66.mono s68
      generalize h68 : H66.upd k68 (Obj.cells #[Value.func (Fn.func 67) #[] #[]] 60) = H70 at s68 b68 vs68 ⊢
      refine (count_ok (fs := [Value.func (Fn.func 67) #[] #[]]) (ps := [leftM]) (hl.mono vs68.sub) (fsRd b68) rfl hn (by decide) fun j f q h1 h2 x hx Q hQ => ?_).mono ?_
      · match j, h1, h2 with
        | 0, h1, h2 =>
          simp at h1 h2; rw [← h1]; rw [← h2] at hQ
          refine CallY.fn (by kernel_rfl) ((sLeft_ok ((hw x hx).mono vs68.sub)).mono ?_)
          rintro _ H' ⟨hv, hH⟩
          rw [hv, hH]; exact hQ
        | j + 1, h1, h2 => simp at h1
      intro v69 H70' h70
      rw [hone] at h70
      rw [h70.1, h70.2]
      refine ⟨_, rfl, s68, fun e1 => ⟨obP k, _, vs66.mk6, fun e2 => ?_, fun e2 => ?_⟩, fun e1 => ?_⟩
      · intro k73 hk73
        have s73 := Sub.upd (Obj.cells #[Value.func (Fn.func 68) #[] #[], Value.func (Fn.func 63) #[] #[Value.pointer (at0 k)]] 60) hk73
        have b73 : Bx (H70.upd k73 (Obj.cells #[Value.func (Fn.func 68) #[] #[], Value.func (Fn.func 63) #[] #[Value.pointer (at0 k)]] 60)) k73 60 [Value.func (Fn.func 68) #[] #[], Value.func (Fn.func 63) #[] #[Value.pointer (at0 k)]] := Bx.new H70 k73 _ _
        have vs73 := vs68.mono s73
        have s73' := s68.trans s73
        generalize h73 : H70.upd k73 (Obj.cells #[Value.func (Fn.func 68) #[] #[], Value.func (Fn.func 63) #[] #[Value.pointer (at0 k)]] 60) = H75 at s73 b73 vs73 s73' ⊢
        refine ⟨s73', (count_ok (fs := [Value.func (Fn.func 68) #[] #[], Value.func (Fn.func 63) #[] #[Value.pointer (at0 k)]]) (ps := [markedM, fun m => mark_ m == (best L).1]) (hl.mono vs73.sub) (fsRd b73) rfl hn (by simp) fun j f q h1 h2 x hx Q hQ => ?_).mono ?_⟩
        · match j, h1, h2 with
          | 0, h1, h2 =>
            simp at h1 h2; rw [← h1]; rw [← h2] at hQ
            exact CallY.fn (by kernel_rfl) ((sMarked_ok x).use hQ)
          | 1, h1, h2 =>
            simp at h1 h2; rw [← h1]; rw [← h2] at hQ
            refine CallY.fn (by kernel_rfl) ?_
            obtain ⟨y1, y2, y3, y4, y5, y6, y7, y8, y9, y10, ⟨ya, yb, yc, yl⟩, ⟨za, zb, zc, zl⟩, ⟨wa, wb, wc, wl⟩⟩ := x
            exact sSettle1.vc y1 y2 y3 y4 y5 y6 y7 y8 y9 y10 ya yb yc za zb zc wa wb wc (at0 k) H75 Q ⟨obP k, _, vs73.mk6, hQ⟩
          | j + 2, h1, h2 => simp at h1
        intro v74 H75' h75
        have h2 : cntM (fun x => [markedM, fun m => mark_ m == (best L).1].all fun p => p x) L = cntM (fun m => markedM m && mark_ m == (best L).1) L := by simp
        rw [h2] at h75
        rw [h75.1, h75.2]
        obtain ⟨H77, w77, vs77⟩ := vs73.put (w' := verdW p L []) (i := 1) (x := .bool (decide ((cntM (fun m => markedM m && mark_ m == (best L).1) L : Int) ≥ p.w))) (fun _ _ _ => by
          have e1' : (cntM leftM L == 0) = true := by simpa using e1
          have e2' : ((best L).1 == 0) = false := e2
          simp only [verdW, Verd.cs, e1', e2', Bool.true_and, Bool.false_or, List.set]) rfl (by decide)
        exact ⟨_, rfl, s73', obP k, H77, w77, key H77 vs77⟩
      · obtain ⟨H77, w77, vs77⟩ := vs68.put (w' := verdW p L []) (i := 1) (x := .bool true) (fun _ _ _ => by
          have e1' : (cntM leftM L == 0) = true := by simpa using e1
          have e2' : ((best L).1 == 0) = true := by simpa using e2
          simp only [verdW, Verd.cs, e1', e2', Bool.true_and, Bool.true_or, List.set]) rfl (by decide)
        exact ⟨obP k, H77, w77, key H77 vs77⟩
      · obtain ⟨H77, w77, vs77⟩ := vs68.put (w' := verdW p L []) (i := 1) (x := .bool false) (fun _ _ _ => by
          have e1' : (cntM leftM L == 0) = false := by simpa using e1
          simp only [verdW, Verd.cs, e1', Bool.false_and, List.set]) rfl (by decide)
        exact ⟨obP k, H77, w77, key H77 vs77⟩
    · intro H77 vs77
      refine ⟨fun t H' => match t with | [.int _ i] => 0 ≤ i ∧ i ≤ n ∧ VS tSV H H' k (verdW p L (holdL (best L).2 ((L.take i.toNat).filter fun m => kind_ m == 14))) | _ => False, fun t _ => match t with | [.int _ i] => (n - i).toNat | _ => 0, ⟨by omega, by omega, vs77⟩, ?_⟩
      rintro i H81 ⟨i0, i1, vs⟩
      obtain ⟨i, rfl⟩ : ∃ j : Nat, i = j := ⟨i.toNat, by omega⟩
      rw [Int.toNat_natCast] at vs
      refine ⟨fun hi => ?_, fun hi => ?_⟩
      · have hi' : i < n := by simpa using hi
        obtain ⟨x, hx, hxr⟩ := (hl.mono vs.sub).ex (i := (i : Int)) (by omega) (by omega)
        rw [Int.toNat_natCast] at hx
        have hst := f14_snoc (L.take i) x (best L).2
        rw [show L.take i ++ [x] = L.take (i + 1) by rw [List.take_add_one, hx]; rfl] at hst
        have hlen := f14_len (best L).2 (L.take i)
        rw [List.length_take] at hlen
        have hme : ∀ (H : PHeap) (k : Nat), Bx H k 32 (mE x) → RdL H mE 13 (at0 k) 1 [x] := fun H k h => Bx.rd (E := mE) (l := [x]) Rnd.mLen (by simpa using h)
        have hl1 := hold_len (best L).2 [x]
        have hmB : ∀ (H : PHeap) (k : Nat), H k = none → Bx (H.upd k (.cells (mE x).toArray 32 (0, 0))) k 32 (mE x) := fun H k _ => Bx.new H k _ _
        generalize hX : holdL (best L).2 [x] = X at hst hl1
        have hho : ∀ {G : PHeap} {oa : Option Addr} {c : Nat}, RdL G mE 13 oa 1 [x] → Triple Try.prog 69 #[.slice oa 1 c, (best L).2.v] G fun w H' => ∃ b k q, w = .slice b k q ∧ OwnL H' 3 iE 1 b k q X ∧ Sub G H' ∧ Off G b := fun h => by
          rw [← hX]; exact sHold_ok h (by decide)
        have hkx : ∀ y1, kind_ x = y1 → (kind_ x == 14) = (y1 == 14) := by rintro _ rfl; rfl
        obtain ⟨y1, y2, y3, y4, y5, y6, y7, y8, y9, y10, ⟨ya, yb, yc, yl⟩, ⟨za, zb, zc, zl⟩, ⟨wa, wb, wc, wl⟩⟩ := x
        rw [hkx y1 rfl] at hst
        rw [Rnd.wrapS (by omega) (by omega)]
        refine ⟨(hl.mono vs.sub).ob (by omega) (by omega), y1, y2, y3, y4, y5, y6, y7, y8, y9, y10, ya, yb, yc, za, zb, zc, wa, wb, wc, hxr, fun e1 k101 hk101 => ?_, fun e1 => ?_⟩
        · rw [e1, if_pos rfl] at hst
          have b101 := hmB H81 k101 hk101
          have s101 := Sub.upd (.cells (mE (y1, y2, y3, y4, y5, y6, y7, y8, y9, y10, ⟨ya, yb, yc, yl⟩, ⟨za, zb, zc, zl⟩, ⟨wa, wb, wc, wl⟩)).toArray 32 (0, 0)) hk101
          refine ⟨obP k, _, _, _, _, (vs.mono s101).val2, (hho (hme _ _ b101)).mono ?_⟩
          rintro _ H107 ⟨b, m, q, rfl, hX2, s107, o107⟩
          have vs107 := (vs.mono s101).mono s107
          obtain ⟨s, o, b2, n2, c2, h1, h2, h3, h4⟩ := vs107
          have hm := (hX2.rd (E := iE) (sz := 1) (by omega) Rnd.iLen).len
          have hn2 := (h2.rd (E := iE) (sz := 1) (by omega) Rnd.iLen).len
          have hn2' : n2 ≤ 100000 := by rw [← hn2]; simp only [verdW]; omega
          have hm' : m ≤ 1 := by rw [← hm]; simpa using hl1
          refine ⟨_, _, _, rfl, obP k, b2, n2, c2, h1.fld rfl, append_rd Rnd.tI Rnd.iLen h2 (hX2.rd (E := iE) (sz := 1) (by omega) Rnd.iLen) Rnd.iOne (by simp [maxLen]; omega) (by omega) ?_⟩
          intro b' c' H115 how hf hfr
          obtain ⟨H119, w119, vs119⟩ := VS.app s o h1 h3 h4 how hf hfr
          refine ⟨_, _, _, rfl, obP k, H119, w119, ⟨by omega, by omega, ?_⟩, ⟨by simp only; omega⟩⟩
          rw [show ((i : Int) + 1).toNat = i + 1 by omega, hst]; exact vs119
        · rw [e1] at hst
          simp only [Bool.false_eq_true, if_false, List.append_nil] at hst
          refine ⟨⟨by omega, by omega, ?_⟩, ⟨by simp only; omega⟩⟩
          rw [show ((i : Int) + 1).toNat = i + 1 by omega, hst]; exact vs
      · have hi' : ¬ i < n := by simpa using hi
        rw [List.take_of_length_le (by omega)] at vs
        obtain ⟨b, m, q, hr, hg⟩ := vs.done
        exact ⟨_, _, _, _, _, _, _, _, _, _, hr, hg⟩
end Go.Stl
