/- The contracts of an agreement's object: how it judges what was fixed. -/
import Derived.Test.YthcfmcmmmpfjoaaAgrD
namespace Go.Agr
open Go.Vx Go.Vc Go.Proofs Go.Pln Go.Stl
open Go.Rnd (takesG insG froms againG RdS Both OkM AscG)

theorem ackL_snoc (L : List Msg) (x : Msg) : ackL (L ++ [x]) = ackL L ++ if kind_ x == 17 then [x] else [] := by
  unfold ackL
  rw [List.filter_append]
  cases h : kind_ x == 17 <;> simp [h]
theorem fixed_ok {F H : PHeap} {k kr : Nat} {s : St} (h : AgK F H k kr s) (hf : s.fixed = true) : Triple Try.prog 70 #[.pointer (at0 k)] H (Judged F k kr s s.judge1) := by
  obtain ⟨h1, h2, F1, got, x, h3, h4, h5, h6, h7, h8, h9⟩ := h
  have hlen := h2.len
  have w2 := h8.put (i := 21) (x := .slice none 0 0) (by show 21 < 23; decide)
  have b2 : Bx (H.upd k (.cells (cellsA s { x with a := none, an := 0, ac := 0 }).toArray tAg (0, 0))) k tAg (cellsA s { x with a := none, an := 0, ac := 0 }) := Bx.new _ _ _ _
  have r2 : rest (H.upd k (.cells (cellsA s { x with a := none, an := 0, ac := 0 }).toArray tAg (0, 0))) [k] = rest H [k] := rest_upd _ _ _
  refine agFixed.vc (at0 k) H _ ⟨obP k, obP k, obF k 14, H.upd k (.cells (cellsA s { x with a := none, an := 0, ac := 0 }).toArray tAg (0, 0)), w2, obP k, obP k, x.r, b2.fld rfl, ?_⟩
  generalize H.upd k (.cells (cellsA s { x with a := none, an := 0, ac := 0 }).toArray tAg (0, 0)) = H2 at b2 r2 ⊢
  rw [h3]
  have h6' := h6
  rw [← r2] at h6'
  refine (callR (Rnd.got_own h6' (by rw [got_len h7]; omega)) b2).mono ?_
  rintro _ H5 ⟨G5, ⟨b6, n7, c8, K, rfl, hK, hrd, hsub, hoffb⟩, hG5, hb5⟩
  have hKG : (K.map fun i => (mlook got i).getD Rnd.z0) = s.G := h7.got hK
  rw [hKG] at hrd
  have s5 : Sub (rest H [k]) (rest H5 [k]) := by rw [← r2]; exact hsub.trans hG5
  have rdG := hrd.mono hG5
  have hl7 := rdG.len
  refine ⟨b6, n7, c8, rfl, fun t H' => match t with | [.slice a q c, .int _ i] => 0 ≤ i ∧ i ≤ n7 ∧ Sub (rest H5 [k]) H' ∧ OwnL H' 32 mE 13 a q c (ackL (s.G.take i.toNat)) ∧ Off (rest H5 [k]) a ∧ (∀ z, a = some z → z.block ≠ k) ∧ ∃ ab an ac, Bx H' k tAg (cellsA s { x with a := ab, an := an, ac := ac }) ∧ OwnL H' 3 iE 1 ab an ac ((ackL (s.G.take i.toNat)).map from_) ∧ Off (rest H5 [k]) ab ∧ (∀ z, ab = some z → z.block ≠ k) ∧ (∀ z y, a = some z → ab = some y → z.block ≠ y.block) | _ => False, fun t _ => match t with | [_, .int _ i] => (n7 - i).toNat | _ => 0, ⟨by omega, by omega, rest_sub _ _, Owns.nil _ _ 13, Off.none _, (fun z e => by cases e), none, 0, 0, hb5, Owns.nil _ _ 1, Off.none _, (fun z e => by cases e), fun z y e => by cases e⟩, ?_⟩
  rintro a q c i H15 ⟨i0, i1, s15, how, hoff, hne, ab, an, ac, hb15, hob, hoffb2, hneb, hap⟩
  obtain ⟨i, rfl⟩ : ∃ j : Nat, i = j := ⟨i.toNat, by omega⟩
  rw [Int.toNat_natCast] at how hob
  have hql := (how.rd (E := mE) (sz := 13) (by omega) Rnd.mLen).len
  have hal := (hob.rd (E := iE) (sz := 1) (by omega) Rnd.iLen).len
  rw [List.length_map] at hal
  have hfl : (ackL (s.G.take i)).length ≤ 256 := by
    have : (ackL (s.G.take i)).length ≤ (s.G.take i).length := List.length_filter_le ..
    rw [List.length_take] at this
    omega
  refine ⟨fun hi => ?_, fun hi => ?_⟩
  · have hi' : i < n7 := by simpa using hi
    have rdG15 := rdG.mono s15
    obtain ⟨y, hy, hyr⟩ := rdG15.ex (i := (i : Int)) (by omega) (by omega)
    rw [Int.toNat_natCast] at hy
    have hsn := ackL_snoc (s.G.take i) y
    rw [show s.G.take i ++ [y] = s.G.take (i + 1) by rw [List.take_add_one, hy]; rfl] at hsn
    have hky : ∀ y1, kind_ y = y1 → (kind_ y == 17) = (y1 == 17) := by rintro _ rfl; rfl
    have hfy : ∀ y2, from_ y = y2 → [y].map from_ = [y2] := by rintro _ rfl; rfl
    have hmo := Rnd.mOne y
    obtain ⟨y1, y2, y3, y4, y5, y6, y7, y8, y9, y10, ⟨ya, yb, yc, yl⟩, ⟨za, zb, zc, zl⟩, ⟨wa, wb, wc, wl⟩⟩ := y
    rw [hky y1 rfl] at hsn
    have hfy' := hfy y2 rfl
    rw [Rnd.wrapS (i := (i : Int)) (by omega) (by omega)]
    refine ⟨rdG15.ob (by omega) (by omega), y1, y2, y3, y4, y5, y6, y7, y8, y9, y10, ya, yb, yc, za, zb, zc, wa, wb, wc, hyr, fun e1 k35 hk35 => ?_, fun e1 => ?_⟩
    · rw [e1, if_pos rfl] at hsn
      refine append_one Rnd.tM (E := mE) hk35 Rnd.mLen how rfl hmo (by simp [maxLen]; omega) (by omega) ?_
      intro a' c' H37 how' hf' hfr' hnn
      have hb37 := hf'.bx hb15 hne
      have hob37 : OwnL H37 3 iE 1 ab an ac ((ackL (s.G.take i)).map from_) := hob.mono fun z o hz ho => hf' _ _ ho fun z' hz' e => hap z' z hz' hz e.symm
      have hne' := hfr'.ne hb15 hne
      have hap' : ∀ z y, a' = some z → ab = some y → z.block ≠ y.block := fun z y hz hy => by
        subst hy
        obtain ⟨o, ho⟩ := hob.blk
        exact hfr'.ne ho (fun z' hz' => hap z' y hz' rfl) z hz
      have s37 := hf'.sub s15 hoff
      have hoff' := hfr'.off s15 hoff
      refine ⟨a', q + 1, c', rfl, H37, Sub.refl _, obP k, obP k, obF k 14, ab, an, ac, hb37.fld (i := 21) rfl, fun k45 hk45 => ⟨Sub.upd _ hk45, ?_⟩⟩
      refine append_one Rnd.tI (E := iE) (x := y2) hk45 Rnd.iLen hob37 rfl (Rnd.iOne _) (by simp [maxLen]; omega) (by omega) ?_
      intro ab' ac' H47 hob' hf2 hfr2 _
      have hb47 := hf2.bx hb37 hneb
      have how47 : OwnL H47 32 mE 13 a' (q + 1) c' _ := how'.mono fun z o hz ho => hf2 _ _ ho fun z' hz' e => hap' z z' hz hz' e
      have hneb' := hfr2.ne hb37 hneb
      have hap2 : ∀ z y, a' = some z → ab' = some y → z.block ≠ y.block := fun z y hz hy => by
        subst hz
        obtain ⟨o, ho⟩ := how'.blk
        exact fun e => hfr2.ne ho (fun z' hz' e' => hap' z z' rfl hz' e'.symm) y hy e.symm
      have s47 := hf2.sub s37 hoffb2
      have hoffb' := hfr2.off s37 hoffb2
      have w51 := hb47.put (i := 21) (x := .slice ab' (an + 1) ac') (by show 21 < 23; decide)
      refine ⟨ab', an + 1, ac', rfl, obP k, obP k, obF k 14, _, w51, ⟨by omega, by omega, ?_⟩, ⟨by simp only; omega⟩⟩
      rw [show ((i : Int) + 1).toNat = i + 1 by omega, hsn, List.map_append, hfy']
      refine ⟨s47.wr (rest_none (by simp)), how47.mono fun z o hz ho => by rw [Vx.upd_ne _ _ (hne' z hz)]; exact ho, hoff', hne', ab', an + 1, ac', Bx.new _ _ _ _, hob'.mono fun z o hz ho => by rw [Vx.upd_ne _ _ (hneb' z hz)]; exact ho, hoffb', hneb', hap2⟩
    · rw [e1] at hsn
      simp only [Bool.false_eq_true, if_false, List.append_nil] at hsn
      refine ⟨⟨by omega, by omega, ?_⟩, ⟨by simp only; omega⟩⟩
      rw [show ((i : Int) + 1).toNat = i + 1 by omega, hsn]
      exact ⟨s15, how, hoff, hne, ab, an, ac, hb15, hob, hoffb2, hneb, hap⟩
  · have hi' : ¬ i < n7 := by simpa using hi
    rw [List.take_of_length_le (by omega)] at how hob hfl hql hal
    have ra := (how.rd (E := mE) (sz := 13) (by omega) Rnd.mLen).rest (ks := [k]) fun z hz => by simpa using hne z hz
    have s15r : Sub (rest H5 [k]) (rest H15 [k]) := rest_le s15 (by simpa using rest_none (by simp))
    have rv : Reads H15 (fldA (at0 k) 16) s.value.c := hb15.readsAt 16 fun j v hv => by
      match j, hv with
      | 0, hv => exact hv
      | 1, hv => exact hv
      | 2, hv => exact hv
      | 3, hv => exact hv
      | j + 4, hv => simp at hv
    refine ⟨obP k, obP k, obF k 14, _, _, _, _, rv, (callR (sHold_ok (v := s.value) ra (by omega)) hb15).mono ?_⟩
    rintro _ H57 ⟨G57, ⟨b, m, q2, rfl, ho, hs57, ho57⟩, hG57, hb57⟩
    have s57 : Sub (rest H15 [k]) (rest H57 [k]) := hs57.trans hG57
    have w61 := hb57.put (i := 20) (x := .slice b m q2) (by show 20 < 23; decide)
    have b61 : Bx (H57.upd k (.cells (cellsA s { x with a := ab, an := an, ac := ac, h := b, hn := m, hc := q2 }).toArray tAg (0, 0))) k tAg (cellsA s { x with a := ab, an := an, ac := ac, h := b, hn := m, hc := q2 }) := Bx.new _ _ _ _
    have s0 := s5.trans (s15r.trans s57)
    have hR := RdS_grow h6 s0
    have hF2 : Sub F1 (grow F1 (rest H [k]) (rest H57 [k])) := grow_le h6.sub
    have rdh := ho.rd (E := iE) (sz := 1) (by omega) Rnd.iLen
    have rH : RdL (grow F1 (rest H [k]) (rest H57 [k])) iE 1 b m (holdL s.value (ackL s.G)) := rd_grow (rdh.mono hG57) (ho57.sub (s5.trans s15r))
    have rA : RdL (grow F1 (rest H [k]) (rest H57 [k])) iE 1 ab an ((ackL s.G).map from_) := rd_grow ((((hob.rd (E := iE) (sz := 1) (by omega) Rnd.iLen).rest (ks := [k]) fun z hz => by simpa using hneb z hz)).mono s57) (hoffb2.sub s5)
    have hml := rdh.len
    have hA : AgK F (H57.upd k (.cells (cellsA s { x with a := ab, an := an, ac := ac, h := b, hn := m, hc := q2 }).toArray tAg (0, 0))) k kr s.counted :=
      ⟨h1, ⟨h2.pok, h2.wt, h2.gin, h2.asc, h2.okG, h2.okS⟩, _, got, { x with a := ab, an := an, ac := ac, h := b, hn := m, hc := q2 }, h3, h4, h5.trans hF2, by rw [rest_upd]; exact hR, h7, Bx.new _ _ _ _, ⟨rH, rA, h9.s.mono hF2⟩⟩
    refine ⟨b, m, q2, rfl, obP k, obP k, obF k 14, _, w61, obP k, obP k, ?_⟩
    have hR61 : RdS (grow F1 (rest H [k]) (rest H57 [k])) (rest (H57.upd k (.cells (cellsA s { x with a := ab, an := an, ac := ac, h := b, hn := m, hc := q2 }).toArray tAg (0, 0))) [k]) kr s.asks s.wait got s.tries := by rw [rest_upd]; exact hR
    have e61 : H57.upd k (.cells ((cellsA s { x with a := ab, an := an, ac := ac }).set 20 (.slice b m q2)).toArray tAg (0, 0)) = H57.upd k (.cells (cellsA s { x with a := ab, an := an, ac := ac, h := b, hn := m, hc := q2 }).toArray tAg (0, 0)) := rfl
    rw [e61]
    generalize H57.upd k (.cells (cellsA s { x with a := ab, an := an, ac := ac, h := b, hn := m, hc := q2 }).toArray tAg (0, 0)) = H61 at b61 hA hR61 ⊢
    have hj : s.judge1 = if decide ((s.num : Int) ≥ s.p.w) || allG s.wait s.G then (s.counted.end_ (decide ((s.num : Int) ≥ s.p.w)), []) else (s.counted, []) := rfl
    have fin : ∀ n : Nat, n = s.num → (decide ((n : Int) ≥ s.p.w) = true → Triple Try.prog 24 #[.pointer (at0 k), .bool (decide ((n : Int) ≥ s.p.w))] H61 fun v H' => ∃ a1 k1 k2, v = Value.slice a1 k1 k2 ∧ Judged F k kr s s.judge1 (.slice a1 k1 k2) H') ∧
        (decide ((n : Int) ≥ s.p.w) = false → Triple Try.prog 27 #[.pointer (at0 kr)] H61 fun v H69 => ∃ b70, v = Value.bool b70 ∧ (b70 = true → Bx H69 k tAg (cellsA s { x with a := ab, an := an, ac := ac, h := b, hn := m, hc := q2 }) ∧ Triple Try.prog 24 #[.pointer (at0 k), .bool (decide ((n : Int) ≥ s.p.w))] H69 fun v H' => ∃ a1 k1 k2, v = Value.slice a1 k1 k2 ∧ Judged F k kr s s.judge1 (.slice a1 k1 k2) H') ∧ (b70 = false → Judged F k kr s s.judge1 (.slice none 0 0) H69)) := fun n hn => by
      rw [← hn] at hj
      refine ⟨fun e => (end_ok hA).mono ?_, fun e => (callR (Rnd.all_ok hR61) b61).mono ?_⟩
      · rintro _ H' ⟨rfl, hA'⟩
        rw [hj, e]
        rw [e] at hA'
        exact ⟨_, _, _, rfl, none, 0, 0, kr, rfl, RdL.nil _ _ _, hA', Moved.stay hA' rfl⟩
      · rintro _ H69 ⟨G69, ⟨rfl, hs69⟩, hG69, hb69⟩
        have hA69 : AgK F H69 k kr s.counted :=
          ⟨h1, ⟨h2.pok, h2.wt, h2.gin, h2.asc, h2.okG, h2.okS⟩, _, got, { x with a := ab, an := an, ac := ac, h := b, hn := m, hc := q2 }, h3, h4, h5.trans hF2, hR61.mono (hs69.trans hG69), h7, hb69, ⟨rH, rA, h9.s.mono hF2⟩⟩
        rw [all_eq h7]
        refine ⟨_, rfl, fun e2 => ⟨hb69, (end_ok hA69).mono ?_⟩, fun e2 => ?_⟩
        · rintro _ H' ⟨rfl, hA'⟩
          rw [hj, e, e2]
          rw [e] at hA'
          exact ⟨_, _, _, rfl, none, 0, 0, kr, rfl, RdL.nil _ _ _, hA', Moved.stay hA' rfl⟩
        · rw [hj, e, e2]
          exact ⟨none, 0, 0, kr, rfl, RdL.nil _ _ _, hA69, Moved.stay hA69 rfl⟩
    refine ⟨s.live, b61.fld (i := 9) rfl, fun e => ?_, fun e => ?_⟩
    · have hn : m = s.num := by unfold St.num; rw [e, if_pos rfl, hml]
      obtain ⟨f1, f2⟩ := fin m hn
      refine ⟨obP k, obP k, obF k 14, b, m, q2, b61.fld (i := 20) rfl, obP k, obP k, obF k 0, s.p.w, b61.fld (i := 3) rfl, fun e2 => ⟨obP k, obP k, x.r, b61.fld (i := 12) rfl, ?_⟩, fun e2 => ⟨obP k, obP k, obF k 0, s.p.w, b61.fld (i := 3) rfl, f1 (by simpa using e2)⟩⟩
      rw [h3]
      refine (f2 e2).mono ?_
      rintro _ H69 ⟨b70, rfl, g1, g2⟩
      exact ⟨b70, rfl, fun e3 => ⟨obP k, obP k, obF k 0, s.p.w, (g1 e3).1.fld (i := 3) rfl, (g1 e3).2⟩, fun e3 => g2 e3⟩
    · have hn : q = s.num := by unfold St.num; rw [e, if_neg (by decide), hql]
      obtain ⟨f1, f2⟩ := fin q hn
      refine ⟨obP k, obP k, obF k 0, s.p.w, b61.fld (i := 3) rfl, fun e2 => ⟨obP k, obP k, x.r, b61.fld (i := 12) rfl, ?_⟩, fun e2 => ⟨obP k, obP k, obF k 0, s.p.w, b61.fld (i := 3) rfl, f1 (by simpa using e2)⟩⟩
      rw [h3]
      refine (f2 e2).mono ?_
      rintro _ H69 ⟨b70, rfl, g1, g2⟩
      exact ⟨b70, rfl, fun e3 => ⟨obP k, obP k, obF k 0, s.p.w, (g1 e3).1.fld (i := 3) rfl, (g1 e3).2⟩, fun e3 => g2 e3⟩
end Go.Agr
