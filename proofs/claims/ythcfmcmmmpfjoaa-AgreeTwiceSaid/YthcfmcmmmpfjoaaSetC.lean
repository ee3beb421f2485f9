/- What counts: the contract of the document's Settle. -/
import Derived.Test.YthcfmcmmmpfjoaaSetB
namespace Go.Stl
open Go.Vx Go.Vc Go.Proofs Go.Pln

abbrev tRV : TypeId := 100
/-- One proof for two places. -/
theorem twice2 {T C : Int → Int → Prop} {G : Prop} (use : (∀ a b, C a b → T a b) → G) (key : ∀ a b, C a b → T a b) : G := use key
theorem cnt_bif {b : Bool} {c : Nat} {z : Int} (hz : z = c) (h : c ≤ 1000000) : (bif b then IntKind.i64.wrap (z + 1) else z) = ((c + (if b then 1 else 0) : Nat) : Int) := by
  cases b
  · simpa using hz
  · simp only [cond_true, if_true]; rw [wrap64 (by omega) (by omega)]; omega
theorem hold_one (v : Val) (x : Msg) : holdL v [x] = if holdsM v x then [from_ x] else [] := by
  unfold holdL
  cases h : holdsM v x <;> simp [h]
theorem marked_val {m : Msg} (h : markedM m = true) : valueM m = if what_ m != 4 then ofV m else val0 := by
  simp only [markedM, valueM] at h ⊢
  cases h1 : kind_ m == 14 <;> simp [h1] at h ⊢
  rcases h with (h | h) | h <;> simp [h]
theorem rSettle_ok {H : PHeap} {p : Plan} {oa : Option Addr} {n c : Nat} {L : List Msg} (hl : RdL H mE 13 oa n L) (hw : ∀ x ∈ L, RdL H iE 1 (who_ x).oa (who_ x).n (who_ x).l) (hn : n ≤ 100000) :
    Triple Try.prog 57 #[p.v, .slice oa n c] H (GivesV (verd p L) H) := by
  have hll := hl.len
  refine rSettle.vc p.n p.t p.l p.w p.s p.r oa n c H _ fun k hk => ?_
  have v00 : VS tRV H _ k verd0 := VS.start hk
  obtain ⟨H11, w11, v0⟩ : ∃ H11, Writes (H.upd k (.cells (verd0.cs none 0 0).toArray tRV (0, 0))) H11 (at0 k) (verd0.cs none 0 0) ∧ VS tRV H H11 k verd0 :=
    ⟨_, (Bx.new H k tRV (verd0.cs none 0 0)).writes (verd0.cs none 0 0) rfl, v00.sub.wr hk, hk, none, 0, 0, Bx.new _ k tRV _, Owns.nil _ _ 1, Off.none _, fun a h => by cases h⟩
  refine ⟨H11, w11, (refRight_ok p).use ⟨_, rfl, fun e => ?_, fun e => ?_⟩⟩
  · obtain ⟨b, m, q, hr, hg⟩ := v0.done
    rw [verd_no (by simpa using e)]
    exact ⟨_, _, _, _, _, _, _, _, _, _, hr, hg⟩
  have e' : p.ok = true := by simpa using e
  have pok := Plan.ok_iff.1 e'
  have pn := pok.n2
  have pn1 := pok.n1
  have pw := pok.w2
  have pw1 := pok.w1
  rw [verd_ok e']
  refine ⟨fun t H' => match t with | [.int _ i] => 0 ≤ i ∧ i ≤ n ∧ VS tRV H H' k ⟨false, false, (best (L.take i.toNat)).2, (best (L.take i.toNat)).1, []⟩ | _ => False, fun t _ => match t with | [.int _ i] => (n - i).toNat | _ => 0, ⟨by omega, by omega, v0⟩, ?_⟩
  rintro i H28 ⟨i0, i1, vs⟩
  obtain ⟨i, rfl⟩ : ∃ j : Nat, i = j := ⟨i.toNat, by omega⟩
  rw [Int.toNat_natCast] at vs
  refine ⟨fun hi => ?_, fun hi => ?_⟩
  · have hi' : i < n := by simpa using hi
    have hl28 := hl.mono vs.sub
    obtain ⟨x, hx, hxr⟩ := hl28.ex (i := (i : Int)) (by omega) (by omega)
    rw [Int.toNat_natCast] at hx
    have hst : best (L.take (i + 1)) = bestStep (best (L.take i)) x := by rw [List.take_add_one, hx]; exact best_snoc _ _
    have ob := hl28.ob (i := (i : Int)) (by omega) (by omega)
    have ne : Ob (elemA oa (i : Int) 13 ≠ none) := ⟨hl28.elem_ne (i := (i : Int)) (by omega) (by omega)⟩
    have rd : ∀ {G : PHeap}, Sub H G → ∀ {j : Nat} {v : Value}, (mE x)[j]? = some v → Reads G (fldA (elemA oa (i : Int) 13) j) [v] := fun hs j v hv => by
      have := ((hl.mono hs).at (i := (i : Int)) (by omega) (by rw [Int.toNat_natCast]; exact hx))
      exact Rnd.fldM this hv
    have hma := rMarked_ok x
    have hmv := fun h => marked_val (m := x) h
    have hbs : bestStep (best (L.take i)) x = if markedM x && decide (mark_ x > (best (L.take i)).1) then (mark_ x, valueM x) else best (L.take i) := rfl
    generalize valueM x = va at hbs hmv
    generalize markedM x = mm at hma hmv hbs
    obtain ⟨y1, y2, y3, y4, y5, y6, y7, y8, y9, y10, ⟨ya, yb, yc, yl⟩, ⟨za, zb, zc, zl⟩, ⟨wa, wb, wc, wl⟩⟩ := x
    have hbs' : bestStep (best (L.take i)) (y1, y2, y3, y4, y5, y6, y7, y8, y9, y10, ⟨ya, yb, yc, yl⟩, ⟨za, zb, zc, zl⟩, ⟨wa, wb, wc, wl⟩) = if mm && decide (y8 > (best (L.take i)).1) then (y8, va) else best (L.take i) := hbs
    have hmv' : mm = true → va = if y10 != 4 then ⟨true, y6, y7, y9⟩ else val0 := hmv
    rw [← hst] at hbs'
    rw [Rnd.wrapS (by omega) (by omega)]
    refine ⟨H28, Sub.refl _, ob, y1, y2, y3, y4, y5, y6, y7, y8, y9, y10, ya, yb, yc, za, zb, zc, wa, wb, wc, hxr, hma.use ⟨_, rfl, Sub.refl _, fun e1 => ?_, fun e1 => ?_⟩⟩
    · have e1' : mm = true := by simpa using e1
      refine ⟨ob, ne, y8, rd vs.sub (j := 7) rfl, obP k, _, vs.mk6, fun e2 => ?_, fun e2 => ?_⟩
      · have e2' : decide (y8 > (best (L.take i)).1) = false := by simpa using e2
        rw [e1', e2'] at hbs'
        refine ⟨⟨by omega, by omega, ?_⟩, ⟨by simp only; omega⟩⟩
        rw [show ((i : Int) + 1).toNat = i + 1 by omega, hbs']; exact vs
      · have e2' : decide (y8 > (best (L.take i)).1) = true := by
          have : ¬ y8 ≤ (best (L.take i)).1 := by simpa using e2
          simp; omega
        rw [e1', e2'] at hbs'
        have hva := hmv' e1'
        obtain ⟨H55, w55, vs55⟩ := vs.put (w' := ⟨false, false, (best (L.take i)).2, y8, []⟩) (i := 6) (x := vI y8) (fun _ _ _ => rfl) rfl (by decide)
        obtain ⟨H56, w56, vs56⟩ := vs55.val val0
        refine ⟨ob, ne, y8, rd vs.sub (j := 7) rfl, obP k, H55, w55, obP k, H56, w56, ob, ne, y10, rd vs56.sub (j := 9) rfl, fun e3 => ?_, fun e3 => ?_⟩
        · obtain ⟨H62, w62, vs62⟩ := vs56.val ⟨true, y6, y7, y9⟩
          refine ⟨H56, Sub.refl _, ob, ne, y6, rd vs56.sub (j := 5) rfl, ob, ne, y7, rd vs56.sub (j := 6) rfl, ob, ne, y9, rd vs56.sub (j := 8) rfl, obP k, H62, w62, ⟨by omega, by omega, ?_⟩, ⟨by simp only; omega⟩⟩
          rw [e3, if_pos rfl] at hva
          rw [show ((i : Int) + 1).toNat = i + 1 by omega, hbs', hva]; exact vs62
        · refine ⟨⟨by omega, by omega, ?_⟩, ⟨by simp only; omega⟩⟩
          rw [e3] at hva
          rw [show ((i : Int) + 1).toNat = i + 1 by omega, hbs', hva]; exact vs56
    · have e1' : mm = false := by simpa using e1
      rw [e1'] at hbs'
      refine ⟨⟨by omega, by omega, ?_⟩, ⟨by simp only; omega⟩⟩
      rw [show ((i : Int) + 1).toNat = i + 1 by omega, hbs']; exact vs
  · have hi' : ¬ i < n := by simpa using hi
    rw [List.take_of_length_le (by omega)] at vs
    refine ⟨fun t H' => match t with | [.int _ a, .int _ b, .int _ d, .int _ i] => 0 ≤ i ∧ i ≤ n ∧ a = (cntM soundM (L.take i.toNat) : Nat) ∧ b = (cntM (fun m => markedM m && mark_ m == (best L).1) (L.take i.toNat) : Nat) ∧ d = (cntM leftM (L.take i.toNat) : Nat) ∧ VS tRV H H' k ⟨false, false, (best L).2, (best L).1, holdL (best L).2 ((L.take i.toNat).filter fun m => kind_ m == 14)⟩ | _ => False, fun t _ => match t with | [_, _, _, .int _ i] => (n - i).toNat | _ => 0, ⟨by omega, by omega, rfl, rfl, rfl, vs⟩, ?_⟩
    clear hi hi' i0 i1 i
    rintro n65 n66 n67 i H69 ⟨i0, i1, h65, h66, h67, vs⟩
    obtain ⟨i, rfl⟩ : ∃ j : Nat, i = j := ⟨i.toNat, by omega⟩
    rw [Int.toNat_natCast] at vs h65 h66 h67
    have cl : ∀ p : Msg → Bool, cntM p (L.take i) ≤ 1000000 := fun p => by have := cnt_le p (L.take i); rw [List.length_take] at this; omega
    refine ⟨fun hi => ?_, fun hi => ?_⟩
    · have hi' : i < n := by simpa using hi
      have hl69 := hl.mono vs.sub
      obtain ⟨x, hx, hxr⟩ := hl69.ex (i := (i : Int)) (by omega) (by omega)
      rw [Int.toNat_natCast] at hx
      have htk : L.take i ++ [x] = L.take (i + 1) := by rw [List.take_add_one, hx]; rfl
      have hst := f14_snoc (L.take i) x (best L).2
      have hcs := cnt_snoc soundM (L.take i) x
      have hcm := cnt_snoc (fun m => markedM m && mark_ m == (best L).1) (L.take i) x
      have hcl := cnt_snoc leftM (L.take i) x
      rw [htk] at hst hcs hcm hcl
      rw [hold_one] at hst
      have hlen := f14_len (best L).2 (L.take i)
      rw [List.length_take] at hlen
      have ob := hl69.ob (i := (i : Int)) (by omega) (by omega)
      have ne : Ob (elemA oa (i : Int) 13 ≠ none) := ⟨hl69.elem_ne (i := (i : Int)) (by omega) (by omega)⟩
      have rd : ∀ {G : PHeap}, Sub H G → ∀ {j : Nat} {v : Value}, (mE x)[j]? = some v → Reads G (fldA (elemA oa (i : Int) 13) j) [v] := fun hs j v hv => by
        have := ((hl.mono hs).at (i := (i : Int)) (by omega) (by rw [Int.toNat_natCast]; exact hx))
        exact Rnd.fldM this hv
      have hwx := (hw x (List.mem_of_getElem? hx)).mono vs.sub
      have hw0 := rWho_ok (i := 0) hwx
      have hw1 := rWho_ok (i := 1) hwx
      have hw2 := rWho_ok (i := 2) hwx
      have hma := rMarked_ok x
      have hho := rHolds_ok x (best L).2
      have hs_ : ∀ y1, kind_ x = y1 → soundM x = (y1 == 14 && whoL x 2 == 1) := by rintro _ rfl; rfl
      have hl_ : ∀ y1, kind_ x = y1 → leftM x = (y1 == 14 && (whoL x 0 != 0 || whoL x 1 != 0)) := by rintro _ rfl; rfl
      have hm_ : ∀ y8, mark_ x = y8 → (markedM x && mark_ x == (best L).1) = (markedM x && y8 == (best L).1) := by rintro _ rfl; rfl
      have hmk_ : ∀ y1, kind_ x = y1 → (y1 == 14) = false → (markedM x && mark_ x == (best L).1) = false := by rintro _ rfl h; simp [markedM, h]
      have hk_ : ∀ y1, kind_ x = y1 → (kind_ x == 14) = (y1 == 14) := by rintro _ rfl; rfl
      have hf_ : ∀ y2, from_ x = y2 → [from_ x] = [y2] := by rintro _ rfl; rfl
      generalize soundM x = sm at hs_ hcs
      generalize leftM x = lm at hl_ hcl
      generalize (markedM x && mark_ x == (best L).1) = qm at hm_ hmk_ hcm
      generalize markedM x = mm at hma hm_
      generalize holdsM (best L).2 x = hm at hho hst
      generalize whoL x 0 = w0 at hw0 hl_
      generalize whoL x 1 = w1 at hw1 hl_
      generalize whoL x 2 = w2 at hw2 hs_
      obtain ⟨y1, y2, y3, y4, y5, y6, y7, y8, y9, y10, ⟨ya, yb, yc, yl⟩, ⟨za, zb, zc, zl⟩, ⟨wa, wb, wc, wl⟩⟩ := x
      rw [hk_ y1 rfl, hf_ y2 rfl] at hst
      replace hs_ := hs_ y1 rfl
      replace hl_ := hl_ y1 rfl
      replace hm_ := hm_ y8 rfl
      rw [Rnd.wrapS (i := (i : Int)) (by omega) (by omega)]
      refine ⟨ob, ne, y1, rd vs.sub (j := 0) rfl, fun e1 => ?_, fun e1 => ?_⟩
      · have e1' : (y1 == 14) = false := by simpa [bne] using e1
        rw [e1'] at hst hs_ hl_
        simp only [Bool.false_eq_true, if_false, List.append_nil, Bool.false_and] at hst hs_ hl_
        have hq : qm = false := hmk_ y1 rfl e1'
        rw [hs_] at hcs
        rw [hl_] at hcl
        rw [hq] at hcm
        refine ⟨⟨by omega, by omega, ?_⟩, ⟨by simp only; omega⟩⟩
        rw [show ((i : Int) + 1).toNat = i + 1 by omega, hst, hcs, hcl, hcm]
        exact ⟨h65, h66, h67, vs⟩
      have e1' : (y1 == 14) = true := by simpa [bne] using e1
      rw [e1'] at hst hs_ hl_
      simp only [if_true, Bool.true_and] at hst hs_ hl_
      have h65' : (bif w2 == 1 then IntKind.i64.wrap (n65 + 1) else n65) = (cntM soundM (L.take (i + 1)) : Nat) := by rw [cnt_bif h65 (cl _), hcs, hs_]
      refine ⟨ob, y1, y2, y3, y4, y5, y6, y7, y8, y9, y10, ya, yb, yc, za, zb, zc, wa, wb, wc, hxr, hw2.mono ?_⟩
      rintro _ H91 ⟨rfl, hH⟩
      rw [hH]
      refine ⟨_, rfl, ob, y1, y2, y3, y4, y5, y6, y7, y8, y9, y10, ya, yb, yc, za, zb, zc, wa, wb, wc, hxr, hw0.mono ?_⟩
      rintro _ H113 ⟨rfl, hH⟩
      rw [hH]
      refine ⟨_, rfl, ?_⟩
      rw [h65']
      apply twice2 (C := fun lf ss => lf = (cntM leftM (L.take (i + 1)) : Nat) ∧ ss = (cntM (fun m => markedM m && mark_ m == (best L).1) (L.take (i + 1)) : Nat))
      · intro key
        refine ⟨fun e2 => ⟨ob, y1, y2, y3, y4, y5, y6, y7, y8, y9, y10, ya, yb, yc, za, zb, zc, wa, wb, wc, hxr, hw1.mono ?_⟩, fun e2 => ?_⟩
        · intro v134 H135 h135
          rw [h135.1, h135.2]
          have e2' : (w0 != 0) = false := e2
          have hlf : (bif w1 != 0 then IntKind.i64.wrap (n67 + 1) else n67) = (cntM leftM (L.take (i + 1)) : Nat) := by rw [cnt_bif h67 (cl _), hcl, hl_, e2', Bool.false_or]
          refine ⟨w1, rfl, H69, Sub.refl _, ob, y1, y2, y3, y4, y5, y6, y7, y8, y9, y10, ya, yb, yc, za, zb, zc, wa, wb, wc, hxr, hma.use ⟨_, rfl, Sub.refl _, fun e3 => ⟨ob, ne, y8, rd vs.sub (j := 7) rfl, obP k, _, vs.mk6, ?_⟩, fun e3 => ?_⟩⟩
          · have hss : (bif y8 == (best L).1 then IntKind.i64.wrap (n66 + 1) else n66) = (cntM (fun m => markedM m && mark_ m == (best L).1) (L.take (i + 1)) : Nat) := by rw [cnt_bif h66 (cl _), hcm, hm_, e3, Bool.true_and]
            generalize (bif w1 != 0 then IntKind.i64.wrap (n67 + 1) else n67) = lf at hlf ⊢
            generalize (bif y8 == (best L).1 then IntKind.i64.wrap (n66 + 1) else n66) = ss at hss ⊢
            exact key lf ss ⟨hlf, hss⟩
          · have e3' : mm = false := by simpa using e3
            have hss : n66 = (cntM (fun m => markedM m && mark_ m == (best L).1) (L.take (i + 1)) : Nat) := by rw [h66, hcm, hm_, e3']; simp
            generalize (bif w1 != 0 then IntKind.i64.wrap (n67 + 1) else n67) = lf at hlf ⊢
            exact key lf n66 ⟨hlf, hss⟩
        · have e2' : (w0 != 0) = true := by simpa using e2
          have hlf : IntKind.i64.wrap (n67 + 1) = (cntM leftM (L.take (i + 1)) : Nat) := by
            have := cnt_bif (b := true) h67 (cl _)
            rw [cond_true] at this
            rw [this, hcl, hl_, e2', Bool.true_or]
          refine ⟨H69, Sub.refl _, ob, y1, y2, y3, y4, y5, y6, y7, y8, y9, y10, ya, yb, yc, za, zb, zc, wa, wb, wc, hxr, hma.use ⟨_, rfl, Sub.refl _, fun e3 => ⟨ob, ne, y8, rd vs.sub (j := 7) rfl, obP k, _, vs.mk6, ?_⟩, fun e3 => ?_⟩⟩
          · have hss : (bif y8 == (best L).1 then IntKind.i64.wrap (n66 + 1) else n66) = (cntM (fun m => markedM m && mark_ m == (best L).1) (L.take (i + 1)) : Nat) := by rw [cnt_bif h66 (cl _), hcm, hm_, e3, Bool.true_and]
            generalize IntKind.i64.wrap (n67 + 1) = lf at hlf ⊢
            generalize (bif y8 == (best L).1 then IntKind.i64.wrap (n66 + 1) else n66) = ss at hss ⊢
            exact key lf ss ⟨hlf, hss⟩
          · have e3' : mm = false := by simpa using e3
            have hss : n66 = (cntM (fun m => markedM m && mark_ m == (best L).1) (L.take (i + 1)) : Nat) := by rw [h66, hcm, hm_, e3']; simp
            generalize IntKind.i64.wrap (n67 + 1) = lf at hlf ⊢
            exact key lf n66 ⟨hlf, hss⟩
      · rintro lf ss ⟨hlf, hss⟩
        refine ⟨H69, Sub.refl _, ob, y1, y2, y3, y4, y5, y6, y7, y8, y9, y10, ya, yb, yc, za, zb, zc, wa, wb, wc, hxr, obP k, _, _, _, _, vs.val2, hho.use ⟨_, rfl, fun e4 => ?_, fun e4 => ?_⟩⟩
        · rw [e4, if_pos rfl] at hst
          obtain ⟨s, o, b2, n2, c2, h1, h2, h3, h4⟩ := vs
          have hn2 := (h2.rd (E := iE) (sz := 1) (by omega) Rnd.iLen).len
          have hn2' : n2 ≤ 100000 := by rw [← hn2]; simp only; omega
          refine ⟨H69, Sub.refl _, obP k, b2, n2, c2, h1.fld rfl, ob, ne, y2, rd s (j := 1) rfl, fun k34 hk34 => ⟨Sub.upd _ hk34, ?_⟩⟩
          refine append_one Rnd.tI (E := iE) (x := y2) hk34 Rnd.iLen h2 rfl (Rnd.iOne _) (by simp [maxLen]; omega) (by omega) ?_
          intro b' q' H' how hf hfr _
          obtain ⟨H119, w119, vs119⟩ := VS.app s o h1 h3 h4 how hf hfr
          refine ⟨b', n2 + 1, q', rfl, obP k, H119, w119, ⟨by omega, by omega, ?_⟩, ⟨by simp only; omega⟩⟩
          rw [show ((i : Int) + 1).toNat = i + 1 by omega, hst]; exact ⟨rfl, hss, hlf, vs119⟩
        · rw [e4] at hst
          simp only [Bool.false_eq_true, if_false, List.append_nil] at hst
          refine ⟨⟨by omega, by omega, ?_⟩, ⟨by simp only; omega⟩⟩
          rw [show ((i : Int) + 1).toNat = i + 1 by omega, hst]; exact ⟨rfl, hss, hlf, vs⟩
    · have hi' : ¬ i < n := by simpa using hi
      rw [List.take_of_length_le (by omega)] at vs h65 h66 h67
      obtain ⟨H343, w343, vs343⟩ := vs.put (w' := ⟨decide ((cntM soundM L : Int) ≥ p.n - p.w + 1), false, (best L).2, (best L).1, _⟩) (i := 0) (x := .bool (decide ((cntM soundM L : Int) ≥ p.n - p.w + 1))) (fun _ _ _ => rfl) rfl (by decide)
      have hd : decide (n65 ≥ IntKind.i64.wrap (IntKind.i64.wrap (p.n - p.w) + 1)) = decide ((cntM soundM L : Int) ≥ p.n - p.w + 1) := by
        rw [h65, wrap64 (n := p.n - p.w) (by omega) (by omega), wrap64 (by omega) (by omega)]
      rw [hd]
      refine ⟨obP k, H343, w343, fun e1 => ⟨obP k, _, vs343.mk6, fun e2 => ?_, fun e2 => ?_⟩, fun e1 => ?_⟩
      · obtain ⟨H77, w77, vs77⟩ := vs343.put (w' := verdW p L _) (i := 1) (x := .bool (decide (n66 ≥ p.w))) (fun _ _ _ => by
          have e1' : (cntM leftM L == 0) = true := by simpa [h67] using e1
          have e2' : ((best L).1 == 0) = false := e2
          simp only [verdW, Verd.cs, e1', e2', Bool.true_and, Bool.false_or, List.set, h66]) rfl (by decide)
        obtain ⟨b, m, q, hr, hg⟩ := vs77.done
        exact ⟨obP k, H77, w77, _, _, _, _, _, _, _, _, _, _, hr, hg⟩
      · obtain ⟨H77, w77, vs77⟩ := vs343.put (w' := verdW p L _) (i := 1) (x := .bool true) (fun _ _ _ => by
          have e1' : (cntM leftM L == 0) = true := by simpa [h67] using e1
          have e2' : ((best L).1 == 0) = true := by simpa using e2
          simp only [verdW, Verd.cs, e1', e2', Bool.true_and, Bool.true_or, List.set]) rfl (by decide)
        obtain ⟨b, m, q, hr, hg⟩ := vs77.done
        exact ⟨obP k, H77, w77, _, _, _, _, _, _, _, _, _, _, hr, hg⟩
      · obtain ⟨H77, w77, vs77⟩ := vs343.put (w' := verdW p L _) (i := 1) (x := .bool false) (fun _ _ _ => by
          have e1' : (cntM leftM L == 0) = false := by simpa [h67] using e1
          simp only [verdW, Verd.cs, e1', Bool.false_and, List.set]) rfl (by decide)
        obtain ⟨b, m, q, hr, hg⟩ := vs77.done
        exact ⟨obP k, H77, w77, _, _, _, _, _, _, _, _, _, _, hr, hg⟩
end Go.Stl
