/- What the law RoundOnce tells: true. -/
import Derived.Test.YtcdgeeakfoofpacRndD
namespace Go.Rnd
open Go.Vx Go.Vc Go.Proofs

/-- A message to a node, with nothing else; one from a node. -/
abbrev askTo (n : Int) : Msg := (0, 0, n, 0, ⟨#[]⟩, 0, 0, 0, 0, 0, ⟨none, 0, 0, []⟩, ⟨none, 0, 0, []⟩, ⟨none, 0, 0, []⟩)
abbrev ansOf (n : Int) : Msg := (0, n, 0, 0, ⟨#[]⟩, 0, 0, 0, 0, 0, ⟨none, 0, 0, []⟩, ⟨none, 0, 0, []⟩, ⟨none, 0, 0, []⟩)
theorem one_key {m : Msg} {n : Int} {K : List Int} (h : GotL [(n, m)] K) : K = [n] := List.perm_singleton.1 h.perm
theorem look_one (n : Int) (m : Msg) : mlook [(n, m)] n = some m := by simp [mlook]
theorem look_other {n k : Int} (m : Msg) (h : k ≠ n) : mlook [(n, m)] k = none := by
  have : ¬ n = k := fun e => h e.symm
  simp [mlook, this]
theorem again_one {n k : Int} (m : Msg) (h : k ≠ n) : again [askTo n, askTo k] [(n, m)] = [askTo k] := by
  unfold again
  rw [List.filter_cons, List.filter_cons]
  simp only [to_, look_one, look_other m h]
  rfl
theorem again_two {n k : Int} (m : Msg) (h : k ≠ n) : again [askTo k, askTo n] [(n, m)] = [askTo k] := by
  unfold again
  rw [List.filter_cons, List.filter_cons]
  simp only [to_, look_one, look_other m h]
  rfl
theorem two_asks {H : PHeap} {k1 k2 : Nat} (n1 n2 w : Int) (h1 : H k1 = none) (h2 : H.upd k1 (.cells (([askTo n1, askTo n2] : List Msg).flatMap mE).toArray 36) k2 = none) :
    Sub H ((H.upd k1 (.cells (([askTo n1, askTo n2] : List Msg).flatMap mE).toArray 36)).upd k2 (.cells #[.int .i64 w] 3)) ∧
    RdL ((H.upd k1 (.cells (([askTo n1, askTo n2] : List Msg).flatMap mE).toArray 36)).upd k2 (.cells #[.int .i64 w] 3)) mE 13 (at0 k1) 2 [askTo n1, askTo n2] ∧
    RdL ((H.upd k1 (.cells (([askTo n1, askTo n2] : List Msg).flatMap mE).toArray 36)).upd k2 (.cells #[.int .i64 w] 3)) iE 1 (at0 k2) 1 [w] := by
  have b1 := (Bx.new H k1 36 (([askTo n1, askTo n2] : List Msg).flatMap mE)).upd (.cells #[.int .i64 w] 3) h2
  have b2 := Bx.new (H.upd k1 (.cells (([askTo n1, askTo n2] : List Msg).flatMap mE).toArray 36)) k2 3 (([w] : List Int).flatMap iE)
  exact ⟨(Sub.upd _ h1).trans (Sub.upd _ h2), b1.rd mLen, b2.rd iLen⟩
theorem alive_ok (H : PHeap) : Triple Try.prog 6 #[] H fun v H' => v = .bool true ∧ Sub H H' := by
  refine aliveR.vc H _ fun k1 hk1 k2 hk2 => ?_
  obtain ⟨s0, r1, r2⟩ := two_asks 1 2 2 hk1 hk2
  refine (new_ok (tries := 1) (c := 2) (d := 1) r1 r2 (by omega) (by omega)).mono ?_
  rintro _ H1 ⟨k, F, rfl, h1, sF⟩
  refine ⟨at0 k, rfl, (take_ok (m := ansOf 2) h1).mono ?_⟩
  have ht : takesB [2] [] (ansOf 2) = true := by simp [takesB, mlook]
  rw [ht]
  rintro _ H2 ⟨rfl, h2⟩
  rw [if_pos rfl, List.nil_append] at h2
  refine ⟨_, rfl, (tick_ok h2).mono ?_⟩
  have hm1 : maxI 1 0 = 1 := rfl
  rw [hm1]
  rintro v H3 (⟨e, _⟩ | ⟨_, h3, b, m, c, rfl, hl⟩)
  · simp at e
  rw [again_two _ (by omega)] at hl
  have hm := hl.len
  simp only [List.length_singleton] at hm
  subst hm
  refine ⟨b, 1, c, false, rfl, (tick_ok h3).mono ?_⟩
  rintro v H4 (⟨_, rfl, h4, s4⟩ | ⟨e, _⟩)
  · have hl4 := hl.mono s4
    refine ⟨none, 0, 0, true, rfl, fun _ => (all_ok h4).mono ?_, fun e => by simp at e⟩
    rintro _ H5 ⟨rfl, s5⟩
    have hl5 := hl4.mono s5
    have h5 := h4.mono s5
    refine ⟨_, rfl, fun _ => ⟨fun _ => ⟨hl5.ob (i := 0) (by omega) (by omega), ⟨hl5.elem_ne (i := 0) (by omega) (by omega)⟩, 1, fld_to (hl5.at (i := 0) (by omega) rfl), fun _ => ⟨fun _ => ⟨fun _ => (got_ok h5 (by simp)).mono ?_, fun e => by simp at e⟩, fun e => by simp at e⟩, fun e => by simp at e⟩, fun e => by simp at e⟩, fun e => by simp [allB, mlook] at e⟩
    rintro _ H6 ⟨b6, n6, c6, K, rfl, hK, hrd, s6⟩
    have := hrd.len
    rw [one_key hK] at this
    simp only [List.map_cons, List.map_nil, List.length_singleton] at this
    subst this
    refine ⟨b6, 1, c6, rfl, rfl, s0.trans (sF.trans (h5.sub.trans s6))⟩
  · exact absurd (by rfl) e
theorem once_ok {H : PHeap} {a b : Msg} {tries : Int} (h1 : RdL H iE 1 a.2.2.2.2.2.2.2.2.2.2.1.oa a.2.2.2.2.2.2.2.2.2.2.1.n a.2.2.2.2.2.2.2.2.2.2.1.l) (h2 : RdL H strE 1 a.2.2.2.2.2.2.2.2.2.2.2.1.oa a.2.2.2.2.2.2.2.2.2.2.2.1.n a.2.2.2.2.2.2.2.2.2.2.2.1.l)
    (h3 : RdL H bE 1 a.2.2.2.2.2.2.2.2.2.2.2.2.oa a.2.2.2.2.2.2.2.2.2.2.2.2.n a.2.2.2.2.2.2.2.2.2.2.2.2.l) (h4 : RdL H strE 1 b.2.2.2.2.2.2.2.2.2.2.2.1.oa b.2.2.2.2.2.2.2.2.2.2.2.1.n b.2.2.2.2.2.2.2.2.2.2.2.1.l)
    (hfr : -9223372036854775808 ≤ from_ a) (ht0 : 0 ≤ tries) (ht1 : tries ≤ 255) :
    Triple Try.prog 4 #[vM a, vM b, .int .u8 tries] H fun v H' => v = .bool true ∧ Sub H H' := by
  have alive : ∀ {H1 : PHeap}, Sub H H1 → Triple Try.prog 6 #[] H1 fun v H' => ∃ b, v = Value.bool b ∧ Value.bool b = Value.bool true ∧ Sub H H' := fun hs => (alive_ok _).mono fun v H' ⟨h1, h2⟩ => ⟨true, h1, rfl, hs.trans h2⟩
  have fa := far_ok h2
  have fb := far_ok h4
  obtain ⟨y1, y2, y3, y4, y5, y6, y7, y8, y9, y10, ⟨ya, yb, yc, yl⟩, ⟨za, zb, zc, zl⟩, ⟨wa, wb, wc, wl⟩⟩ := a
  obtain ⟨x1, x2, x3, x4, x5, x6, x7, x8, x9, x10, ⟨xa, xb, xc, xl⟩, ⟨va, vb, vc, vl⟩, ⟨ua, ub, uc, ul⟩⟩ := b
  have et : IntKind.i64.wrap tries = tries := wrap64 (by omega) (by omega)
  refine lawOnce.vc y1 y2 y3 y4 y5 y6 y7 y8 y9 y10 ya yb yc za zb zc wa wb wc x1 x2 x3 x4 x5 x6 x7 x8 x9 x10 xa xb xc va vb vc ua ub uc tries H _ (fa.mono ?_)
  rintro _ H ⟨b1, rfl, rfl, hsm⟩
  refine ⟨b1, rfl, fun hb1 => fb.mono ?_, fun _ => alive (Sub.refl _)⟩
  rintro _ H ⟨b2, rfl, rfl, _⟩
  refine ⟨b2, rfl, fun _ => alive (Sub.refl _), fun _ => ⟨fun _ => alive (Sub.refl _), fun hbig => fun k1 hk1 k2 hk2 => ?_⟩⟩
  have hbig' : y2 ≤ 1073741824 := by simpa using hbig
  have ef : IntKind.i64.wrap (y2 + 1) = y2 + 1 := wrap64 (by simp only [from_] at hfr; omega) (by omega)
  rw [ef] at hk2 ⊢
  rw [et]
  have hne : y2 + 1 ≠ y2 := by omega
  have okA : OkM H (y1, y2, y3, y4, y5, y6, y7, y8, y9, y10, ⟨ya, yb, yc, yl⟩, ⟨za, zb, zc, zl⟩, ⟨wa, wb, wc, wl⟩) := ⟨h1, h2, h3, hsm hb1⟩
  obtain ⟨s0, r1, r2⟩ := two_asks y2 (y2 + 1) y2 hk1 hk2
  refine (new_ok (tries := tries) (c := 2) (d := 1) r1 r2 (by omega) (by omega)).mono ?_
  have hmx : maxI tries 0 = tries := by unfold maxI; split <;> omega
  rw [hmx]
  rintro _ H1 ⟨k, F, rfl, g1, sF⟩
  refine ⟨at0 k, rfl, (all_ok g1).mono ?_⟩
  rintro _ H2 ⟨rfl, s2⟩
  refine ⟨_, rfl, fun _ => (take_ok (m := (y1, y2, y3, y4, y5, y6, y7, y8, y9, y10, ⟨ya, yb, yc, yl⟩, ⟨za, zb, zc, zl⟩, ⟨wa, wb, wc, wl⟩)) (g1.mono s2)).mono ?_, fun e => by simp [allB, mlook] at e⟩
  have e1 : takesB [y2] [] (y1, y2, y3, y4, y5, y6, y7, y8, y9, y10, ⟨ya, yb, yc, yl⟩, ⟨za, zb, zc, zl⟩, ⟨wa, wb, wc, wl⟩) = true := by simp [takesB, mlook]
  rw [e1]
  rintro _ H3 ⟨rfl, g3⟩
  rw [if_pos rfl, List.nil_append] at g3
  refine ⟨_, rfl, fun _ => (take_ok (m := (x1, y2, x3, x4, x5, x6, x7, x8, x9, x10, ⟨xa, xb, xc, xl⟩, ⟨va, vb, vc, vl⟩, ⟨ua, ub, uc, ul⟩)) g3).mono ?_, fun e => by simp at e⟩
  have e2 : takesB [y2] [(y2, (y1, y2, y3, y4, y5, y6, y7, y8, y9, y10, ⟨ya, yb, yc, yl⟩, ⟨za, zb, zc, zl⟩, ⟨wa, wb, wc, wl⟩))] (x1, y2, x3, x4, x5, x6, x7, x8, x9, x10, ⟨xa, xb, xc, xl⟩, ⟨va, vb, vc, vl⟩, ⟨ua, ub, uc, ul⟩) = false := by simp [takesB, look_one]
  rw [e2]
  rintro _ H4 ⟨rfl, g4⟩
  rw [if_neg (by simp)] at g4
  refine ⟨_, rfl, fun _ => (all_ok g4).mono ?_, fun e => by simp at e⟩
  rintro _ H5 ⟨rfl, s5⟩
  have g5 := g4.mono s5
  refine ⟨_, rfl, fun e => by simp [allB, look_one] at e, fun _ => ⟨fun t H' => match t with | [.int _ i] => 0 ≤ i ∧ i ≤ tries ∧ RdS F H' k [askTo y2, askTo (y2 + 1)] [y2] [(y2, (y1, y2, y3, y4, y5, y6, y7, y8, y9, y10, ⟨ya, yb, yc, yl⟩, ⟨za, zb, zc, zl⟩, ⟨wa, wb, wc, wl⟩))] (tries - i) | _ => False, fun t _ => match t with | [.int _ i] => (tries - i).toNat | _ => 0, ⟨by omega, by omega, by rw [Int.sub_zero]; exact g5⟩, ?_⟩⟩
  rintro i H6 ⟨i0, i1, g6⟩
  refine ⟨fun hi => (tick_ok g6).mono ?_, fun hi => (tick_ok g6).mono ?_⟩
  · have hi' : i < tries := by simpa using hi
    rintro v H7 (⟨e, _⟩ | ⟨_, g7, b, m, c, rfl, hl⟩)
    · omega
    rw [again_one _ hne] at hl
    have hm := hl.len
    simp only [List.length_singleton] at hm
    subst hm
    refine ⟨b, 1, c, false, rfl, H7, Sub.refl _, fun _ => ⟨fun _ => ⟨hl.ob (i := 0) (by omega) (by omega), ⟨hl.elem_ne (i := 0) (by omega) (by omega)⟩, y2 + 1, fld_to (hl.at (i := 0) (by omega) rfl), fun e => by simp at e, fun _ => ?_⟩, fun e => by simp at e⟩, fun e => by simp at e⟩
    rw [wrapS i0 (by omega)]
    have e3 : IntKind.i64.wrap (tries - i - 1) = tries - (i + 1) := by rw [wrap64 (by omega) (by omega)]; omega
    rw [e3] at g7
    exact ⟨⟨by omega, by omega, g7⟩, ⟨by simp only; omega⟩⟩
  · have hi' : i = tries := by
      have : ¬ i < tries := by simpa using hi
      omega
    rintro v H7 (⟨_, rfl, g7, s7⟩ | ⟨e, _⟩)
    · refine ⟨none, 0, 0, true, rfl, (got_ok g7 (by simp)).mono ?_⟩
      rintro _ H8 ⟨b8, n8, c8, K, rfl, hK, hrd, s8⟩
      have hKe := one_key hK
      subst hKe
      rw [List.map_cons, List.map_nil, look_one] at hrd
      have hn8 := hrd.len
      simp only [List.length_singleton] at hn8
      subst hn8
      refine ⟨b8, 1, c8, rfl, (tick_nil H8).mono ?_⟩
      rintro _ H9 ⟨rfl, s9⟩
      have sA : Sub H H9 := s0.trans (sF.trans (g7.sub.trans (s8.trans s9)))
      have hrd9 := hrd.mono s9
      refine ⟨none, 0, 0, true, rfl, H9, Sub.refl _, fun _ => ⟨fun _ => ⟨hrd9.ob (i := 0) (by omega) (by omega), y1, y2, y3, y4, y5, y6, y7, y8, y9, y10, ya, yb, yc, za, zb, zc, wa, wb, wc, hrd9.at (i := 0) (by omega) rfl, (same_ok (okA.mono sA)).mono ?_⟩, fun e => by simp at e⟩, fun e => by simp at e⟩
      rintro _ H10 ⟨rfl, s10⟩
      refine ⟨true, rfl, s10, fun _ => (take_nil H10 (y1, y2, y3, y4, y5, y6, y7, y8, y9, y10, ⟨ya, yb, yc, yl⟩, ⟨za, zb, zc, zl⟩, ⟨wa, wb, wc, wl⟩)).mono ?_, fun e => by simp at e⟩
      rintro _ H10 ⟨rfl, rfl⟩
      refine ⟨false, rfl, fun _ => (all_nil H10).mono ?_, fun e => by simp at e⟩
      rintro _ H11 ⟨rfl, s11⟩
      refine ⟨false, rfl, fun _ => (got_nil H11).mono ?_, fun e => by simp at e⟩
      rintro _ H11 ⟨rfl, rfl⟩
      refine ⟨none, 0, 0, rfl, (asks_nil H11).mono ?_⟩
      rintro _ H11 ⟨rfl, rfl⟩
      refine ⟨none, 0, 0, rfl, fun _ => ⟨fun _ => alive (sA.trans (s10.trans s11)), fun e => by simp at e⟩, fun e => ?_⟩
      rw [show IntKind.i64.wrap (((0 : Nat) : Int) + ((0 : Nat) : Int)) = 0 by kernel_rfl] at e
      simp at e
    · omega
end Go.Rnd
