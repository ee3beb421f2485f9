/- Gathering: the reference's Done and Dump. -/
import Derived.Test.YtcdgeeakfoofpabGatE
namespace Go.Gat
open Go.Vx Go.Vc Go.Proofs Go.Pak

section
variable {F H : PHeap} {m : Nat} {kn : Bool} {who : List Int} {P : List (Int × BS)}
theorem rDone_ok (h : RfS F H m kn who P) :
    Triple Try.prog 12 #[.pointer (at0 m)] H fun v H' => Sub H H' ∧
      ((doneB kn who P = false ∧ v = .tuple #[.slice none 0 0, .bool false]) ∨
       (doneB kn who P = true ∧ ∃ b n c L, v = .tuple #[.slice b n c, .bool true] ∧ RdL H' sE 1 b n L ∧ L.map (·.l) = texts who P ∧ ∀ s ∈ L, OkB H' s)) := by
  obtain ⟨oa, n, c, ob, q, d, oc, r, e, h1, h2, h3, h4, h5, h6⟩ := h.row
  have hwl := h2.len
  have hr := h5.len
  rw [List.length_map] at hr
  refine rDone.vc (at0 m) H _ ⟨fun t H' => match t with
    | [.slice a q d, .int _ i] => 0 ≤ i ∧ i ≤ n ∧ Sub H H' ∧ (who.take i.toNat).all (fun i => (mlook P i).isSome) = true ∧ ∃ L : List BS, OwnL H' 32 sE 1 a q d L ∧ Off H a ∧ L.map (·.l) = texts (who.take i.toNat) P ∧ ∀ s ∈ L, OkB F s
    | _ => False, fun t _ => match t with | [_, .int _ i] => (n - i).toNat | _ => 0, ⟨by omega, by omega, Sub.refl _, by simp, [], Owns.nil _ _ 1, Off.none _, by simp [texts], by simp⟩, ?_⟩
  rintro a q1 d1 i H1 ⟨i0, i1, hs1, hall, L, how, hoff, htx, hL⟩
  obtain ⟨i, rfl⟩ : ∃ j : Nat, i = j := ⟨i.toNat, by omega⟩
  rw [Int.toNat_natCast] at hall htx
  have hql : L.length = q1 := (how.rd (E := sE) (sz := 1) (by omega) sLen).len
  have hLl : L.length = i := by
    have := congrArg List.length htx
    simp only [List.length_map, texts, List.length_take] at this
    omega
  have hrd := h2.mono (h.sub.trans hs1)
  refine ⟨neP m, neP m, oa, n, c, (h1.sub hs1).q1, fun hi => ?_, fun hi => ?_⟩
  · have hi' : i < n := by simpa using hi
    obtain ⟨y, hy, hyr⟩ := hrd.ex (i := (i : Int)) (by omega) (by omega)
    rw [Int.toNat_natCast] at hy
    refine ⟨neP m, neP m, oa, n, c, (h1.sub hs1).q1, hrd.ob (by omega) (by omega), y, hyr, (place_ok (h.mono hs1) y).mono ?_⟩
    rintro _ H1 ⟨rfl, ⟨j, x, rfl, hj, hxi, hml⟩ | ⟨rfl, hml⟩⟩
    · refine ⟨_, rfl, fun e => (by have := of_decide_eq_true e; omega), fun _ => ?_⟩
      have hjr : j < r := by have := (List.getElem?_eq_some_iff.1 hj).1; omega
      have hx2 : (P.map (·.2))[(j : Int).toNat]? = some x.2 := by rw [Int.toNat_natCast, List.getElem?_map, hj]; rfl
      have hD := h5.mono (h.sub.trans hs1)
      refine ⟨neP m, neP m, oc, r, e, (h1.sub hs1).q3, hD.ob (by omega) (by omega), x.2.oa, x.2.n, x.2.c, hD.at (by omega) hx2, fun k3 hk3 => ?_⟩
      refine append_one tS hk3 (E := sE) (x := x.2) sLen how rfl (sOne _) (by simp [maxLen]; omega) (by omega) ?_
      intro a5 c5 H5 g5 hf5 hfr5 _
      rw [wrapS (by omega) (by omega)]
      refine ⟨a5, _, c5, rfl, ⟨by omega, by omega, hf5.sub hs1 hoff, ?_, L ++ [x.2], g5, hfr5.off hs1 hoff, ?_, ?_⟩, ⟨by simp only; omega⟩⟩
      · rw [show ((i : Int) + 1).toNat = i + 1 by omega, List.take_add_one, hy, List.all_append, hall]
        simp [hml]
      · rw [show ((i : Int) + 1).toNat = i + 1 by omega, List.take_add_one, hy, List.map_append, htx]
        simp [texts, hml]
      · intro u hu
        rcases List.mem_append.1 hu with hu | hu
        · exact hL u hu
        · simp at hu; subst hu; exact h.ok x (List.mem_of_getElem? hj)
    · refine ⟨_, rfl, fun _ => ⟨hs1, .inl ⟨?_, rfl⟩⟩, fun e => by simp at e⟩
      unfold doneB
      rw [Bool.and_eq_false_iff]
      right
      rw [List.all_eq_false]
      exact ⟨y, List.mem_of_getElem? hy, by rw [hml]; simp⟩
  · have hi' : ¬ i < n := by simpa using hi
    rw [List.take_of_length_le (by omega)] at hall htx
    refine ⟨neP m, neP m, kn, (h1.sub hs1).q0, fun e => ?_, fun e => ?_⟩
    · have e' : kn = false := by simpa using e
      subst e'
      exact ⟨hs1, .inl ⟨rfl, rfl⟩⟩
    · have e' : kn = true := by simpa using e
      subst e'
      exact ⟨hs1, .inr ⟨by simpa [doneB] using hall, a, q1, d1, L, rfl, how.rd (E := sE) (sz := 1) (by omega) sLen, htx, fun s hs => (hL s hs).mono (h.sub.trans hs1)⟩⟩
/-- A part more. -/
theorem more {H0 H : PHeap} {a : Option Addr} {n c : Nat} {A B : List Int} {b : Option Addr} {q d : Nat} (hs : Sub H0 H) (h : OwnL H 5 bE 1 a n c A) (ho : Off H0 a) (hb : RdL H bE 1 b q B) (hn : n + q ≤ 1000000) {K : Value → PHeap → Prop}
    (hK : ∀ a' c' H', OwnL H' 5 bE 1 a' (n + q) c' (A ++ B) → Sub H0 H' → Off H0 a' → K (.slice a' (n + q) c') H') :
    EvV Try.prog (Builtin.append_ #[32, 32] 32 #[.slice a n c, .slice b q d]) H K := by
  refine append_rd tB (E := bE) bLen h hb bOne (by simp [maxLen]; omega) (by omega) ?_
  intro a5 c5 H5 g5 hf5 hfr5
  exact hK _ _ _ g5 (hf5.sub hs ho) (hfr5.off hs ho)
theorem rDump_ok (h : RfS F H m kn who P) (hP : P.length ≤ 100) (hw : ∀ x ∈ who, x ≤ 9223372036854775807) (hp : ∀ x ∈ P, x.1 ≤ 9223372036854775807) :
    Triple Try.prog 18 #[.pointer (at0 m)] H fun v H' => ∃ b n c, v = .slice b n c ∧ RdL H' bE 1 b n (dumpB kn who (P.map fun x => (x.1, x.2.l))) ∧ Sub H H' := by
  obtain ⟨oa, n, c, ob, q, d, oc, r, e, h1, h2, h3, h4, h5, h6⟩ := h.row
  have hwl := h2.len
  have hq := h4.len
  have hr := h5.len
  rw [List.length_map] at hq hr
  have R : ∀ {G : PHeap}, Sub H G → Bx G m 31 [.bool kn, .slice oa n c, .slice ob q d, .slice oc r e] ∧ RdL G iE 1 oa n who ∧ RdL G iE 1 ob q (P.map (·.1)) ∧ RdL G sE 1 oc r (P.map (·.2)) :=
    fun hs => ⟨h1.sub hs, h2.mono (h.sub.trans hs), h4.mono (h.sub.trans hs), h5.mono (h.sub.trans hs)⟩
  refine rDump.vc (at0 m) H _ ⟨neP m, neP m, kn, h1.q0, fun k3 hk3 => ?_⟩
  have ew : IntKind.u8.wrap (bif kn then 1 else 0) = knB kn := by cases kn <;> rfl
  rw [ew]
  have hsk := Sub.upd (.cells #[.int .u8 (knB kn)] 5 (0, 0)) hk3
  have how0 : OwnL (H.upd k3 (.cells #[.int .u8 (knB kn)] 5 (0, 0))) 5 bE 1 (at0 k3) 1 1 [knB kn] :=
    ⟨rfl, .inr ⟨k3, _, rfl, upd_eq .., Nat.le_refl _, by decide, rfl, rfl⟩⟩
  have hoff0 := off_at0 hk3
  generalize H.upd k3 (.cells #[.int .u8 (knB kn)] 5 (0, 0)) = H1 at *
  refine ⟨neP m, neP m, oa, n, c, (R hsk).1.q1, (nNum_ok (w := 1) (by omega) (by omega) (by omega)).mono ?_⟩
  rintro _ H2 ⟨b2, c2, rfl, g2, s2, _⟩
  refine ⟨b2, 1, c2, rfl, more (hsk.trans s2) (Owns.mono how0 fun _ o _ ho => s2.le _ _ ho) hoff0 (g2.rd (E := bE) (sz := 1) (by omega) bLen) (by omega) fun a3 c3 H3 how3 s3 off3 => ⟨a3, _, c3, rfl, ?_⟩⟩
  have e3 : [knB kn] ++ numB 1 (maxI (n : Int) 0) = numN 1 (knB kn) ++ numN 1 who.length := by
    rw [hwl]
    unfold numN
    congr 1
    cases kn <;> rfl
  rw [e3] at how3
  refine ⟨fun t H' => match t with
    | [.slice a q d, .int _ i] => 0 ≤ i ∧ i ≤ n ∧ Sub H H' ∧ Off H a ∧ OwnL H' 5 bE 1 a q d (headB kn (who.take i.toNat) |> fun _ => numN 1 (knB kn) ++ numN 1 who.length ++ (who.take i.toNat).flatMap (numN 2))
    | _ => False, fun t _ => match t with | [_, .int _ i] => (n - i).toNat | _ => 0, ⟨by omega, by omega, s3, off3, ?_⟩, ?_⟩
  · simpa using how3
  rintro a4 q4 d4 i H4 ⟨i0, i1, s4, off4, how4⟩
  obtain ⟨i, rfl⟩ : ∃ j : Nat, i = j := ⟨i.toNat, by omega⟩
  simp only [Int.toNat_natCast] at how4
  obtain ⟨B4, D4, K4, V4⟩ := R s4
  have l4 := (how4.rd (E := bE) (sz := 1) (by omega) bLen).len
  have hfl := flat_le (f := numN 2) (m := 2) (fun x => by rw [numN_len]; omega) (who.take i)
  rw [List.length_take] at hfl
  simp only [List.length_append, numN_len] at l4
  refine ⟨neP m, neP m, oa, n, c, B4.q1, fun hi => ?_, fun hi => ?_⟩
  · have hi' : i < n := by simpa using hi
    obtain ⟨y, hy, hyr⟩ := D4.ex (i := (i : Int)) (by omega) (by omega)
    rw [Int.toNat_natCast] at hy
    refine ⟨neP m, neP m, oa, n, c, B4.q1, D4.ob (by omega) (by omega), y, hyr, (nNum_ok (w := 2) (by omega) (by omega) (hw y (List.mem_of_getElem? hy))).mono ?_⟩
    rintro _ H5 ⟨b5, c5, rfl, g5, s5, _⟩
    refine ⟨b5, 2, c5, rfl, more (s4.trans s5) (Owns.mono how4 fun _ o _ ho => s5.le _ _ ho) off4 (g5.rd (E := bE) (sz := 1) (by omega) bLen) (by omega) fun a6 c6 H6 how6 s6 off6 => ⟨a6, _, c6, rfl, ?_⟩⟩
    rw [wrapS (by omega) (by omega)]
    refine ⟨⟨by omega, by omega, s6, off6, ?_⟩, ⟨by simp only; omega⟩⟩
    rw [show ((i : Int) + 1).toNat = i + 1 by omega, List.take_add_one, hy, List.flatMap_append]
    rw [List.append_assoc] at how6
    simpa [numN] using how6
  · have hi' : ¬ i < n := by simpa using hi
    rw [List.take_of_length_le (by omega)] at how4
    have how4' : OwnL H4 5 bE 1 a4 q4 d4 (headB kn who) := how4
    have hh := headB_len kn who
    have l4' := (how4'.rd (E := bE) (sz := 1) (by omega) bLen).len
    refine ⟨neP m, neP m, ob, q, d, B4.q2, (nNum_ok (w := 1) (by omega) (by omega) (by omega)).mono ?_⟩
    rintro _ H5 ⟨b5, c5, rfl, g5, s5, _⟩
    refine ⟨b5, 1, c5, rfl, more (s4.trans s5) (Owns.mono how4' fun _ o _ ho => s5.le _ _ ho) off4 (g5.rd (E := bE) (sz := 1) (by omega) bLen) (by omega) fun a6 c6 H6 how6 s6 off6 => ⟨a6, _, c6, rfl, ?_⟩⟩
    rw [show numB 1 (maxI (q : Int) 0) = numN 1 P.length by rw [hq]; rfl] at how6
    refine ⟨fun t H' => match t with
      | [.slice a q' d, .int _ i] => 0 ≤ i ∧ i ≤ q ∧ Sub H H' ∧ Off H a ∧ OwnL H' 5 bE 1 a q' d (headB kn who ++ numN 1 P.length ++ ((P.take i.toNat).map fun x => (x.1, x.2.l)).flatMap partB)
      | _ => False, fun t _ => match t with | [_, .int _ i] => (q - i).toNat | _ => 0, ⟨by omega, by omega, s6, off6, ?_⟩, ?_⟩
    · simpa using how6
    rintro a7 q7 d7 i H7 ⟨i0, i1, s7, off7, how7⟩
    obtain ⟨i, rfl⟩ : ∃ j : Nat, i = j := ⟨i.toNat, by omega⟩
    simp only [Int.toNat_natCast] at how7
    obtain ⟨B7, D7, K7, V7⟩ := R s7
    have l7 := (how7.rd (E := bE) (sz := 1) (by omega) bLen).len
    have hfp := flat_le partB_len ((P.take i).map fun x => (x.1, x.2.l))
    rw [List.length_map, List.length_take] at hfp
    simp only [List.length_append, numN_len] at l7
    refine ⟨neP m, neP m, ob, q, d, B7.q2, fun hi => ?_, fun hi => ?_⟩
    · have hi' : i < q := by simpa using hi
      have hPz : P[i]? = some (P[i]'(by omega)) := List.getElem?_eq_getElem (by omega)
      generalize P[i]'(by omega) = x at hPz
      have hy1 : (P.map (·.1))[(i : Int).toNat]? = some x.1 := by rw [Int.toNat_natCast, List.getElem?_map, hPz]; rfl
      have hy2 : (P.map (·.2))[(i : Int).toNat]? = some x.2 := by rw [Int.toNat_natCast, List.getElem?_map, hPz]; rfl
      have hxm := List.mem_of_getElem? hPz
      refine ⟨neP m, neP m, ob, q, d, B7.q2, K7.ob (by omega) (by omega), x.1, K7.at (by omega) hy1, (nNum_ok (w := 2) (by omega) (by omega) (hp x hxm)).mono ?_⟩
      rintro _ H8 ⟨b8, c8, rfl, g8, s8, _⟩
      refine ⟨b8, 2, c8, rfl, more (s7.trans s8) (Owns.mono how7 fun _ o _ ho => s8.le _ _ ho) off7 (g8.rd (E := bE) (sz := 1) (by omega) bLen) (by omega) fun a9 c9 H9 how9 s9 off9 => ⟨a9, _, c9, rfl, ?_⟩⟩
      obtain ⟨B9, D9, K9, V9⟩ := R s9
      have hok := (h.ok x hxm).mono (h.sub.trans s9)
      have hsm := hok.small
      refine ⟨neP m, neP m, oc, r, e, B9.q3, V9.ob (by omega) (by omega), x.2.oa, x.2.n, x.2.c, V9.at (by omega) hy2, (nText_ok hok.rd hok.cap (by omega)).mono ?_⟩
      rintro _ H10 ⟨b10, n10, c10, rfl, g10, s10, _⟩
      have r10 := g10.rd (E := bE) (sz := 1) (by omega) bLen
      have l10 := r10.len
      have htl := textB_len x.2.l
      refine ⟨b10, n10, c10, rfl, more (s9.trans s10) (Owns.mono how9 fun _ o _ ho => s10.le _ _ ho) off9 r10 (by omega) fun a11 c11 H11 how11 s11 off11 => ⟨a11, _, c11, rfl, ?_⟩⟩
      rw [wrapS (by omega) (by omega)]
      refine ⟨⟨by omega, by omega, s11, off11, ?_⟩, ⟨by simp only; omega⟩⟩
      rw [show ((i : Int) + 1).toNat = i + 1 by omega, List.take_add_one, hPz, List.map_append, List.flatMap_append]
      rw [List.append_assoc, List.append_assoc] at how11
      simpa [numN, partB] using how11
    · have hi' : ¬ i < q := by simpa using hi
      rw [List.take_of_length_le (by omega)] at how7
      refine ⟨a7, q7, d7, rfl, ?_, s7⟩
      have := how7.rd (E := bE) (sz := 1) (by omega) bLen
      simpa [dumpB] using this
end
end Go.Gat
