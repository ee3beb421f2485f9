/- What the law PageTurns tells: true. -/
import Derived.Test.YtllbdocjgdnofaaPgG
namespace Go.Page
open Go.Vx Go.Vc Go.Proofs Go.Txt Go.Lab Go.Hp Go.Pln

abbrev data_ (m : Msg) : Sl Int := m.2.2.2.2.2.2.2.2.2.2.2.2
/-- A message as a law has it. -/
structure MsgR (H : PHeap) (m : Msg) : Prop where
  who : RdL H iE 1 (who_ m).oa (who_ m).n (who_ m).l
  names : RdL H sE 1 (names_ m).oa (names_ m).n (names_ m).l
theorem MsgR.mono {H H' : PHeap} {m : Msg} (h : MsgR H m) (hs : Sub H H') : MsgR H' m := ⟨h.who.mono hs, h.names.mono hs⟩
/-- It is not too much. -/
def Near (m : Msg) : Prop := (names_ m).n ≤ 20 ∧ ∀ x ∈ (names_ m).l, x.size ≤ 40
theorem farM_ok {H : PHeap} {m : Msg} (h : MsgR H m) : Triple Try.prog 15 #[vM m] H fun v H' => ∃ b, v = .bool b ∧ H' = H ∧ (b = false → Near m) := by
  obtain ⟨y1, y2, y3, y4, y5, y6, y7, y8, y9, y10, ⟨ya, yb, yc, yl⟩, ⟨za, zb, zc, zl⟩, ⟨wa, wb, wc, wl⟩⟩ := m
  have hz : RdL H sE 1 za zb zl := h.names
  refine farM.vc y1 y2 y3 y4 y5 y6 y7 y8 y9 y10 ya yb yc za zb zc wa wb wc H _ ⟨fun _ => ⟨fun _ => ⟨fun e3 => ⟨fun _ => (far_ok hz).mono ?_, fun _ => ⟨true, rfl, rfl, fun e => by cases e⟩⟩, fun _ => ⟨true, rfl, rfl, fun e => by cases e⟩⟩, fun _ => ⟨true, rfl, rfl, fun e => by cases e⟩⟩, fun _ => ⟨true, rfl, rfl, fun e => by cases e⟩⟩
  rintro _ H' ⟨b, rfl, rfl, hb⟩
  exact ⟨b, rfl, b, rfl, rfl, fun e => ⟨by show zb ≤ 20; simp at e3; omega, (hb e).2⟩⟩
theorem sameInts_ok {H : PHeap} {oa ob : Option Addr} {n c c2 : Nat} {l : List Int} (h1 : RdL H iE 1 oa n l) (h2 : RdL H iE 1 ob n l) (hn : n ≤ 100000) :
    Triple Try.prog 19 #[.slice oa n c, .slice ob n c2] H fun v H' => v = .bool true ∧ H' = H := by
  refine sameInts.vc oa n c ob n c2 H _ ⟨fun h => by simp at h, fun _ => ⟨fun l H' => match l with | [.int _ i] => 0 ≤ i ∧ i ≤ n ∧ H' = H | _ => False, fun l _ => match l with | [.int _ i] => (n - i).toNat | _ => 0, ⟨by omega, by omega, rfl⟩, ?_⟩⟩
  rintro i H1 ⟨i0, i1, rfl⟩
  refine ⟨fun hi => ?_, fun hi => ⟨rfl, rfl⟩⟩
  have hi' : i < n := by simpa using hi
  obtain ⟨x, hx, hxr⟩ := h1.ex (i := i) (by omega) (by omega)
  obtain ⟨y, hy, hyr⟩ := h2.ex (i := i) (by omega) (by omega)
  rw [hx] at hy; cases hy
  refine ⟨H1, Sub.refl _, h1.ob (by omega) (by omega), x, hxr, h2.ob (by omega) (by omega), x, hyr, fun e => by simp at e, fun _ => ?_⟩
  rw [wrapS (by omega) (by omega)]
  exact ⟨⟨by omega, by omega, rfl⟩, ⟨by simp only; omega⟩⟩
theorem PgT.stay {F H F' H' : PHeap} {k : Nat} {names : List ByteArray} {after : ByteArray} {sus : List Int} (h : PgT F H k names after sus) (hs : Stay F H F' H') : PgT F' H' k names after sus := by
  obtain ⟨oa, n, c, ob, m, d, h1, h2, h3, h4, h5⟩ := h.row
  have hh := hs.hsub h.sub
  exact ⟨hs.sub, hs.none h1 h.off, oa, n, c, ob, m, d, h1.sub hh, h2.mono hs.fsub, Owns.mono h3 fun a o _ hb => hh.le _ _ hb, hs.off h4 h3, h5⟩
theorem sumN_le {L : List Msg} {b : Nat} (h : ∀ m ∈ L, (names_ m).l.length ≤ b) : sumN L ≤ b * L.length := by
  induction L with
  | nil => simp [sumN]
  | cons x xs ih =>
    have h1 := ih fun y hy => h y (List.mem_cons_of_mem _ hy)
    have h2 := h x (by simp)
    have e : sumN (x :: xs) = (names_ x).l.length + sumN xs := by simp [sumN]
    rw [e, List.length_cons, Nat.mul_add]; omega
abbrev turnV (a : Option Addr) (m k : Nat) (s : ByteArray) (b : Option Addr) (r q : Nat) : Value := .agg #[.slice a m k, .string s, .slice b r q]
theorem turns_ok {H : PHeap} {p : Plan} {oa : Option Addr} {n c : Nat} {ps : List (Sl Msg)} (h : RdL H Sl.E 1 oa n ps) (hp : ∀ q ∈ ps, RdL H mE 13 q.oa q.n q.l ∧ ∀ m ∈ q.l, MsgR H m) :
    Triple Try.prog 4 #[p.v, .slice oa n c] H fun v H' => v = .bool true ∧ Sub H H' := by
  have alive : ∀ {H1 : PHeap}, Sub H H1 → Triple Try.prog 5 #[] H1 fun v H' => ∃ b, v = Value.bool b ∧ Value.bool b = Value.bool true ∧ Sub H H' := fun hs => (alive_ok _).mono fun v H' ⟨h1, h2⟩ => ⟨true, h1, rfl, hs.trans h2⟩
  have hnl := h.len
  refine lawPTurns.vc p.n p.t p.l p.w p.s p.r oa n c H _ ⟨fun _ => alive (Sub.refl _), fun hn k13 hk13 => ?_⟩
  have hn12 : n ≤ 12 := by simp at hn; omega
  refine ⟨fun t H' => match t with | [.int _ i, w] => 0 ≤ i ∧ i ≤ n ∧ ∃ F names after sus a m k b r q, w = turnV a m k after b r q ∧ Sub H F ∧ PgT F H' k13 names after sus ∧ RdL F sE 1 a m names ∧ m ≤ k ∧ RdL F iE 1 b r sus ∧ Rising names ∧ (∀ x ∈ names, x.size ≤ 40) ∧ names.length ≤ 240 * i.toNat ∧ sus.length ≤ 12 * i.toNat | _ => False, fun t _ => match t with | [.int _ i, _] => (n - i).toNat | _ => 0,
    ⟨by omega, by omega, H, [], noS, [], none, 0, 0, none, 0, 0, rfl, Sub.refl _, PgT.new H hk13, RdL.nil _ _ _, Nat.le_refl _, RdL.nil _ _ _, List.Pairwise.nil, by simp, by simp, by simp⟩, ?_⟩
  rintro i a17 k18 k19 s20 a21 k22 k23 H24 ⟨i0, i1, F, names, after, sus, a, m, k, b, r, q, hw, hsF, hP, hA, hmk, hB, hris, hsz, hln, hls⟩
  obtain ⟨⟨rfl, rfl, rfl⟩, rfl, rfl, rfl, rfl⟩ : (a17 = a ∧ k18 = m ∧ k19 = k) ∧ s20 = after ∧ a21 = b ∧ k22 = r ∧ k23 = q := by simpa [turnV] using hw
  obtain ⟨i, rfl⟩ : ∃ j : Nat, i = j := ⟨i.toNat, by omega⟩
  rw [Int.toNat_natCast] at hln hls
  have hH24 : Sub H H24 := hsF.trans hP.sub
  refine ⟨fun hi => ?_, fun hi => ?_⟩
  · have hi' : i < n := by simpa using hi
    obtain ⟨pq, hpq⟩ : ∃ pq, ps[i]? = some pq := ⟨_, List.getElem?_eq_getElem (by omega)⟩
    obtain ⟨hL, hM⟩ := hp pq (List.mem_of_getElem? hpq)
    have hLl := hL.len
    have h24 := h.mono hH24
    have htop : Reads H24 (elemA oa (i : Int) 1) [.slice pq.oa pq.n pq.c] := h24.at (by omega) (by rw [Int.toNat_natCast]; exact hpq)
    have hL24 := hL.mono hH24
    refine ⟨h24.ob (by omega) (by omega), pq.oa, pq.n, pq.c, htop, fun _ => alive hH24, fun hq => ?_⟩
    have hq12 : pq.n ≤ 12 := by simp at hq; omega
    refine ⟨fun t H' => match t with | [.int _ j] => 0 ≤ j ∧ j ≤ pq.n ∧ H' = H24 ∧ ∀ x ∈ pq.l.take j.toNat, Near x | _ => False, fun t _ => match t with | [.int _ j] => (pq.n - j).toNat | _ => 0, ⟨by omega, by omega, rfl, by simp⟩, ?_⟩
    rintro j H34 ⟨j0, j1, hHH, hnear⟩
    obtain rfl := hHH.symm
    obtain ⟨j, rfl⟩ : ∃ z : Nat, j = z := ⟨j.toNat, by omega⟩
    rw [Int.toNat_natCast] at hnear
    refine ⟨fun hj => ?_, fun hj => ?_⟩
    · have hj' : j < pq.n := by simpa using hj
      obtain ⟨x, hx, hxr⟩ := hL24.ex (i := (j : Int)) (by omega) (by omega)
      rw [Int.toNat_natCast] at hx
      have hfar := farM_ok ((hM x (List.mem_of_getElem? hx)).mono hH24)
      have hnx : ∀ b : Bool, (b = false → Near x) → b = false → ∀ y ∈ pq.l.take (j + 1), Near y := fun b hb e y hy => by
        rw [List.take_add_one, hx] at hy
        rcases List.mem_append.1 hy with hy | hy
        · exact hnear y hy
        · simp at hy; subst hy; exact hb e
      obtain ⟨y1, y2, y3, y4, y5, y6, y7, y8, y9, y10, ⟨ya, yb, yc, yl⟩, ⟨za, zb, zc, zl⟩, ⟨wa, wb, wc, wl⟩⟩ := x
      refine ⟨hL24.ob (by omega) (by omega), y1, y2, y3, y4, y5, y6, y7, y8, y9, y10, ya, yb, yc, za, zb, zc, wa, wb, wc, hxr, hfar.mono ?_⟩
      rintro _ H55 ⟨bf, rfl, hHH, hbf⟩
      obtain rfl := hHH.symm
      refine ⟨bf, rfl, fun _ => alive hH24, fun e => ?_⟩
      rw [wrapS (by omega) (by omega)]
      exact ⟨⟨by omega, by omega, rfl, by rw [show ((j : Int) + 1).toNat = j + 1 by omega]; exact hnx bf hbf e⟩, ⟨by simp only; omega⟩⟩
    · have hj' : ¬ j < pq.n := by simpa using hj
      rw [List.take_of_length_le (by omega)] at hnear
      have hokH : ∀ m ∈ pq.l, OkP H m := fun m hm => ⟨(hM m hm).who, (hM m hm).names, by have := (hnear m hm).1; omega⟩
      have hSz : ∀ m ∈ pq.l, ∀ x ∈ (names_ m).l, x.size ≤ 40 := fun m hm => (hnear m hm).2
      have hfl := List.length_filter_le (fun m => kind_ m == 20) pq.l
      have hsum : sumN (pq.l.filter fun m => kind_ m == 20) ≤ 20 * (pq.l.filter fun m => kind_ m == 20).length := sumN_le fun m hm => by
        have h1 := (hnear m (List.mem_filter.1 hm).1).1
        have h2 := (hM m (List.mem_filter.1 hm).1).names.len
        omega
      have hnN := namesL_len (limL (pq.l.filter fun m => kind_ m == 20)) names (pq.l.filter fun m => kind_ m == 20)
      have hsN := susL_len sus (pq.l.filter fun m => kind_ m == 20)
      refine ⟨H24, Sub.refl _, (enough_ok hP (hL.mono hsF) (fun m hm => (hokH m hm).mono hsF) (by omega)).mono ?_⟩
      rintro _ H62 ⟨rfl, s62⟩
      refine ⟨_, rfl, s62, (refEnough_ok (hL24.mono s62) (fun m hm => (hokH m hm).mono (hH24.trans s62)) (by omega)).mono ?_⟩
      rintro _ H65 ⟨rfl, hHH⟩
      obtain rfl := hHH.symm
      refine ⟨_, rfl, fun e => by cases hx : (p.ok && decide ((cntL pq.l : Int) ≥ p.n - p.w + 1)) <;> simp [hx] at e, fun _ => ?_⟩
      refine (turnT_ok (c := pq.c) (hP.mono s62) (hL.mono hsF) (fun m hm => (hokH m hm).mono hsF) (by omega) (by omega) (by omega)).mono ?_
      rintro _ H68 ⟨rfl, F1, sF1, hP1⟩
      have sHF1 := hsF.trans sF1
      refine ⟨_, rfl, (Triple.ro (R := fun v F' => ∃ b m k b2 m2 k2 w, v = .tuple #[turnV b m k (if (limL (pq.l.filter fun m => kind_ m == 20)).1 then s20 else (limL (pq.l.filter fun m => kind_ m == 20)).2) b2 m2 k2, .bool w] ∧
        w = (limL (pq.l.filter fun m => kind_ m == 20)).1 ∧ RdL F' sE 1 b m (namesL (limL (pq.l.filter fun m => kind_ m == 20)) names (pq.l.filter fun m => kind_ m == 20)) ∧ m ≤ k ∧ RdL F' iE 1 b2 m2 (susL sus (pq.l.filter fun m => kind_ m == 20)))
        ((refTurn_ok (c := pq.c) (cs := k23) (hA.mono sF1) hmk (hB.mono sF1) (hL.mono sHF1) (fun m hm => (hokH m hm).mono sHF1) (by omega) hSz hsz hris (by omega) (by omega)).mono ?_) hP1.sub).mono ?_⟩
      · rintro v F' ⟨b, m, k, b2, m2, k2, w, F2, g1, g2, g3, g4, g5, g6, g7⟩
        exact ⟨⟨b, m, k, b2, m2, k2, w, g1, g2, g5.mono g4, g6, g7.mono g4⟩, g3.trans g4⟩
      rintro _ H71 ⟨F2, ⟨b, m, k, b2, m2, k2, w, rfl, hwb, g5, g6, g7⟩, stay⟩
      have hP2 := hP1.stay stay
      have hns : (namesL (limL (pq.l.filter fun m => kind_ m == 20)) names (pq.l.filter fun m => kind_ m == 20)).length ≤ 240 * (i + 1) := by omega
      have hss : (susL sus (pq.l.filter fun m => kind_ m == 20)).length ≤ 12 * (i + 1) := by omega
      have hris2 := rising_namesL (limL (pq.l.filter fun m => kind_ m == 20)) (pq.l.filter fun m => kind_ m == 20) hris
      have hsz2 : ∀ x ∈ namesL (limL (pq.l.filter fun m => kind_ m == 20)) names (pq.l.filter fun m => kind_ m == 20), x.size ≤ 40 := fun x hx => by
        rcases (mem_namesL _ _ names x).1 hx with h | ⟨m, hm, h, _⟩
        · exact hsz x h
        · exact hSz m (List.mem_filter.1 hm).1 x h
      subst hwb
      have sHF2 := sHF1.trans stay.fsub
      generalize hN : namesL (limL (pq.l.filter fun m => kind_ m == 20)) names (pq.l.filter fun m => kind_ m == 20) = N at *
      generalize hSS : susL sus (pq.l.filter fun m => kind_ m == 20) = S at *
      generalize hAA : (if (limL (pq.l.filter fun m => kind_ m == 20)).1 then s20 else (limL (pq.l.filter fun m => kind_ m == 20)).2) = A at *
      have hNl := g5.len
      have hSl := g7.len
      refine ⟨b, m, k, A, b2, m2, k2, _, rfl, H71, Sub.refl _, fun _ => (names_okT hP2 (by omega)).mono ?_, fun e => by cases hx : (limL (pq.l.filter fun m => kind_ m == 20)).1 <;> simp [hx] at e⟩
      rintro _ H82 ⟨bb, nb, cb, rfl, q1, q2⟩
      have hnb : nb = m := by rw [← q1.len, hNl]
      subst hnb
      refine ⟨bb, _, cb, rfl, q2, (same_ok q1 (g5.mono (hP2.sub.trans q2)) (by omega)).mono ?_⟩
      rintro _ H87 ⟨rfl, hHH⟩
      obtain rfl := hHH.symm
      refine ⟨true, rfl, q2, fun _ => (after_okT (hP2.mono q2)).mono ?_, fun e => by simp at e⟩
      rintro _ H90 ⟨rfl, hHH⟩
      obtain rfl := hHH.symm
      refine ⟨A, rfl, q2, fun _ => (sus_okT (hP2.mono q2) (by omega)).mono ?_, fun e => by rw [eqS_iff.2 rfl] at e; simp at e⟩
      rintro _ H93 ⟨b9, n9, c9, rfl, q3, q4⟩
      have hn9 : n9 = m2 := by rw [← q3.len, hSl]
      subst hn9
      refine ⟨b9, _, c9, rfl, q2.trans q4, (sameInts_ok q3 (g7.mono (hP2.sub.trans (q2.trans q4))) (by omega)).mono ?_⟩
      rintro _ H98 ⟨rfl, hHH⟩
      obtain rfl := hHH.symm
      rw [wrapS (by omega) (by omega)]
      refine ⟨true, rfl, fun e => by simp at e, fun _ => ⟨⟨by omega, by omega, F2, N, A, S, b, _, k, b2, _, k2, rfl, sHF2, hP2.mono (q2.trans q4), g5, g6, g7, hris2, hsz2, ?_, ?_⟩, ⟨by simp only; omega⟩⟩⟩
      · rw [show ((i : Int) + 1).toNat = i + 1 by omega]; exact hns
      · rw [show ((i : Int) + 1).toNat = i + 1 by omega]; exact hss
  · refine pTurn.vc none none 0 0 H24 _ ⟨fun _ => ⟨false, rfl, fun _ => ?_, fun e => by simp at e⟩, fun e => by simp at e⟩
    refine pEnough.vc none p.n p.t p.l p.w p.s p.r none 0 0 H24 _ ⟨fun e => by simp at e, fun _ => ⟨false, rfl, fun _ => ?_, fun e => by simp at e⟩⟩
    refine pAfter.vc none H24 _ ⟨fun _ => ⟨_, rfl, fun _ => ?_, fun e => by rw [eqS_iff.2 rfl] at e; simp at e⟩, fun e => by simp at e⟩
    refine pNames.vc none H24 _ ⟨fun _ => ⟨none, 0, 0, rfl, ?_⟩, fun e => by simp at e⟩
    exact pSus.vc none H24 _ ⟨fun _ => ⟨none, 0, 0, rfl, fun _ => alive hH24, fun e => absurd e (by decide)⟩, fun e => by simp at e⟩
end Go.Page
