/- The law AgreeMarks: the walk. -/
import Derived.Test.YthcfmcmmmpfjoaaAgrM
namespace Go.Agr
open Go.Vx Go.Vc Go.Proofs Go.Pln Go.Stl
open Go.Rnd (takesG insG froms againG RdS Both OkM AscG)

theorem marks_ok {H : PHeap} {p : Plan} {oa ob : Option Addr} {n c m d : Nat} {l : List Msg} {order : List Int} (hl : RdL H mE 13 oa n l) (hm : ∀ x ∈ l, MsgR H x) (hn : n ≤ maxLen) (ho : RdL H Rnd.bE 1 ob m order) (hu : ∀ x ∈ order, 0 ≤ x ∧ x ≤ 255) :
    Triple Try.prog 3 #[p.v, .slice oa n c, .slice ob m d] H fun v H' => v = .bool true ∧ Sub H H' := by
  have hll := hl.len
  have hol := ho.len
  have al : ∀ {G : PHeap}, Sub H G → Triple Try.prog 8 #[] G fun v H' => ∃ b, v = .bool b ∧ (Value.bool b = .bool true ∧ Sub H H') := fun hs => (alive_ok _).mono fun _ _ ⟨e, h⟩ => ⟨true, e, rfl, hs.trans h⟩
  refine lawMarks.vc p.n p.t p.l p.w p.s p.r oa n c ob m d H _ ((refRight_ok p).use ⟨_, rfl, fun e1 => ⟨fun e2 => ⟨fun e3 => (farL_ok hl hm hn).mono ?_, fun _ => al (Sub.refl _)⟩, fun _ => al (Sub.refl _)⟩, fun _ => al (Sub.refl _)⟩)
  rintro _ H17 ⟨b, rfl, hH, hb⟩
  rw [hH]
  refine ⟨b, rfl, fun _ => al (Sub.refl _), fun e4 k22 hk22 => ?_⟩
  have hp : p.ok = true := by simpa using e1
  have pok := Plan.ok_iff.1 hp
  have hn12 : p.n ≤ 12 := by
    have : ¬ p.n > 12 := by simpa using e2
    omega
  have hnn : (n : Int) = p.n := by
    have : ((n : Int) == p.n) = true := by simpa [bne] using e3
    simpa using this
  have pn1 := pok.n1
  have hb0 : b = false := by
    cases b with
    | false => rfl
    | true => simp at e4
  have hm40 : m ≤ 40 := by
    rw [hb0] at e4
    have : ¬ (m : Int) > 40 := by simpa using e4
    omega
  obtain ⟨_, hok⟩ := hb hb0
  have s22 : Sub H (H.upd k22 (.cells #[] 32 (0, 0))) := Sub.upd _ hk22
  refine append_rd Rnd.tM (E := mE) (l := []) Rnd.mLen (Owns.empty H k22 _ 13) (hl.mono s22) Rnd.mOne (by simp [maxLen]; omega) (by omega) ?_
  intro a25 c27 H24 how0 hf0 hfr0
  have hoffk : Off H (at0 k22) := off_at0 hk22
  have s24 : Sub H H24 := hf0.sub s22 hoffk
  have hoff24 : Off H a25 := hfr0.off s22 hoffk
  rw [Nat.zero_add, List.nil_append] at how0
  rw [Nat.zero_add]
  refine ⟨a25, n, c27, rfl, fun t H' => match t with | [.int _ h, .int _ i] => 0 ≤ i ∧ i ≤ n ∧ h = ((l.take i.toNat).filter hi3).length ∧ Sub H H' ∧ ∃ L : List Msg, OwnL H' 32 mE 13 a25 n c27 L ∧ L.length = n ∧ ∀ j x, l[j]? = some x → L[j]? = some (if j < i.toNat then mkM j x else x) | _ => False, fun t _ => match t with | [_, .int _ i] => (n - i).toNat | _ => 0, ⟨by omega, by omega, rfl, s24, l, how0, hll, fun j x hx => by rw [hx]; simp⟩, ?_⟩
  rintro h i H32 ⟨i0, i1, hh, s32, L, how, hLl, hL⟩
  obtain ⟨i, rfl⟩ : ∃ j : Nat, i = j := ⟨i.toNat, by omega⟩
  rw [Int.toNat_natCast] at hh hL
  have hfl : ((l.take i).filter hi3).length ≤ l.length := Nat.le_trans (List.length_filter_le ..) (by rw [List.length_take]; omega)
  have rdL := how.rd (E := mE) (sz := 13) (by omega) Rnd.mLen
  refine ⟨fun hi => ?_, fun hi => ?_⟩
  · have hi' : i < n := by simpa using hi
    have hxl : l[i]? = some l[i] := List.getElem?_eq_getElem (by omega)
    generalize l[i] = x at hxl
    have hxL := hL i x hxl
    rw [if_neg (by omega)] at hxL
    have hxr := rdL.at (i := (i : Int)) (by omega) (by rw [Int.toNat_natCast]; exact hxL)
    obtain ⟨H37, w37, ho37, hf37⟩ := Owns.set Rnd.mLen how (by omega) (i := (i : Int)) (by omega) (by omega) (mkM i x)
    rw [Int.toNat_natCast] at ho37
    have s37 : Sub H H37 := hf37.sub s32 hoff24
    have hL' : ∀ j y, l[j]? = some y → (L.set i (mkM i x))[j]? = some (if j < i + 1 then mkM j y else y) := fun j y hy => by
      rw [List.getElem?_set]
      by_cases e : i = j
      · rw [← e] at hy ⊢
        rw [hxl] at hy
        injection hy with hy
        rw [if_pos rfl, if_pos (by omega), if_pos (by omega), hy]
      · rw [if_neg e, hL j y hy]
        by_cases h1 : j < i
        · rw [if_pos h1, if_pos (by omega)]
        · rw [if_neg h1, if_neg (by omega)]
    have htk : (l.take (i + 1)).filter hi3 = (l.take i).filter hi3 ++ if hi3 x then [x] else [] := by
      rw [List.take_add_one, hxl]
      show (List.take i l ++ [x]).filter hi3 = _
      rw [List.filter_append]
      cases h : hi3 x <;> simp [h]
    have fin : ∀ z : Int, z = ((l.take (i + 1)).filter hi3).length → 0 ≤ (i : Int) + 1 ∧ (i : Int) + 1 ≤ n ∧ z = ((l.take ((i : Int) + 1).toNat).filter hi3).length ∧ Sub H H37 ∧ ∃ L : List Msg, OwnL H37 32 mE 13 a25 n c27 L ∧ L.length = n ∧ ∀ j x, l[j]? = some x → L[j]? = some (if j < ((i : Int) + 1).toNat then mkM j x else x) := fun z hz =>
      ⟨by omega, by omega, by rw [show ((i : Int) + 1).toNat = i + 1 by omega]; exact hz, s37, _, ho37, by rw [List.length_set]; exact hLl, by rw [show ((i : Int) + 1).toNat = i + 1 by omega]; exact hL'⟩
    rw [Rnd.wrapS (i := (i : Int)) (by omega) (by omega)]
    refine ⟨rdL.ob (by omega) (by omega), ⟨rdL.elem_ne (by omega) (by omega)⟩, _, _, _, Rnd.fldM (j := 10) hxr rfl, rdL.ob (by omega) (by omega), ⟨rdL.elem_ne (by omega) (by omega)⟩, _, Rnd.fldM (j := 7) hxr rfl, fun e5 => ⟨rdL.ob (by omega) (by omega), H37, ?_, ?_, ⟨by simp only; omega⟩⟩, fun e5 => ⟨rdL.ob (by omega) (by omega), H37, ?_, ?_, ⟨by simp only; omega⟩⟩⟩
    · have e5' : mark_ x > 3 := by simpa using e5
      have : Rnd.mE (mkM i x) = [vI 14, vI ((i : Int) + 1), vI 0, vI 9, .string ⟨#[97]⟩, vI 4, vI 6, vI 7, vI 0, vI 2, .slice (who_ x).oa (who_ x).n (who_ x).c, .slice none 0 0, .slice none 0 0] := by
        unfold mkM; rw [if_pos e5', if_pos e5', if_pos e5']; rfl
      rw [this] at w37; exact w37
    · have e5' : hi3 x = true := by
        have : mark_ x > 3 := by simpa using e5
        simp [hi3, this]
      rw [hh, wrap64 (by omega) (by omega)]
      refine fin _ ?_
      rw [htk, e5', if_pos rfl, List.length_append, List.length_singleton]; omega
    · have e5' : ¬ mark_ x > 3 := by simpa using e5
      have : Rnd.mE (mkM i x) = [vI 14, vI ((i : Int) + 1), vI 0, vI 9, .string ⟨#[97]⟩, vI 2, vI 2, vI 2, vI 0, vI 2, .slice (who_ x).oa (who_ x).n (who_ x).c, .slice none 0 0, .slice none 0 0] := by
        unfold mkM; rw [if_neg e5', if_neg e5', if_neg e5']; rfl
      rw [this] at w37; exact w37
    · have e5' : hi3 x = false := by
        have : ¬ mark_ x > 3 := by simpa using e5
        simp [hi3]; omega
      refine fin _ ?_
      rw [htk, e5', if_neg (by decide), List.append_nil]; exact hh
  have hi' : ¬ i < n := by simpa using hi
  rw [List.take_of_length_le (by omega)] at hh
  refine ⟨fun _ => al s32, fun e5 => ?_⟩
  have e5' : p.w ≤ (l.filter hi3).length := by
    have : ¬ h < p.w := by simpa using e5
    omega
  have hLm : ∀ j x, l[j]? = some x → L[j]? = some (mkM j x) := fun j x hx => by
    have hj : j < l.length := (List.getElem?_eq_some_iff.1 hx).1
    rw [hL j x hx, if_pos (by omega)]
  have hMS : MS p L := mk_ms (by omega) (by omega) hLm e5'
  have hokL : ∀ x ∈ L, OkM H x := fun x hx => by
    obtain ⟨j, hj, rfl⟩ := List.getElem_of_mem hx
    have hjl : j < l.length := by omega
    have h1 := hLm j l[j] (List.getElem?_eq_getElem hjl)
    rw [List.getElem?_eq_getElem hj] at h1
    rw [Option.some.inj h1]
    have h2 := hok l[j] (List.getElem_mem hjl)
    exact ⟨h2.who, RdL.nil _ _ _, RdL.nil _ _ _, h2.small.1, by simp [mkM], by simp [mkM]⟩
  refine (settle_ok (p := p) (b := 9) (nm := ⟨#[97]⟩) (force := false) hp).mono ?_
  rintro _ H43 ⟨k, bb, nb, cb, F, rfl, hk, hF, _, hA⟩
  have hinv0 : MInv p L ((init0 p 9 ⟨#[97]⟩ false false (IntKind.i64.wrap (2 * 9))).ask mask).1 := ⟨rfl, hp, List.Pairwise.nil, fun _ x hx => (by cases hx), fun e => (by cases e), fun e => (by cases e)⟩
  refine ⟨at0 k, bb, nb, cb, rfl, fun t H' => match t with | [.int _ i] => 0 ≤ i ∧ i ≤ m ∧ ∃ s, AgS F H' k s ∧ MInv p L s | _ => False, fun t _ => match t with | [.int _ i] => (m - i).toNat | _ => 0, ⟨by omega, by omega, _, hA, hinv0⟩, ?_⟩
  clear i0 i1 hi hi' hfl
  rintro i H51 ⟨i0, i1, s, hA, hI⟩
  have s51 : Sub H32 H51 := by
    obtain ⟨kr, hA'⟩ := hA
    exact hF.trans hA'.sub
  refine ⟨fun hi => ?_, fun hi => ?_⟩
  · have hi' : i < m := by simpa using hi
    have ho51 := (ho.mono s32).mono s51
    obtain ⟨z, hz, hzr⟩ := ho51.ex (i := i) (by omega) (by omega)
    have hz255 := hu z (List.mem_of_getElem? hz)
    rw [Rnd.wrapS (i := i) (by omega) (by omega)]
    refine ⟨ho51.ob (by omega) (by omega), z, hzr, fun e6 => (tick_ok hA).mono ?_, fun e6 => ?_⟩
    · rintro _ H54 ⟨b1, n1, c1, rfl, _, hA'⟩
      exact ⟨b1, n1, c1, rfl, ⟨by omega, by omega, _, hA', minv_tick hMS hI⟩, ⟨by simp only; omega⟩⟩
    · rw [wrap64 (n := z) (by omega) (by omega)]
      have t0 : 0 ≤ z.tmod p.n := Int.tmod_nonneg _ hz255.1
      have t1 : z.tmod p.n < n := by rw [hnn]; exact Int.tmod_lt_of_pos _ (by omega)
      generalize z.tmod p.n = q at t0 t1
      have rd51 := rdL.mono s51
      obtain ⟨x, hx, hxr⟩ := rd51.ex (i := q) t0 (by omega)
      have hxL := List.mem_of_getElem? hx
      have hokx := ((hokL x hxL).mono s32).mono hF
      have ht1 := take_ok hA hokx
      have hI1 := minv_take hMS hI (.inl hxL)
      have rdx := hxr
      generalize s.take x = r1 at ht1 hI1
      have ht2 : ∀ (y2 : Int) {H78 : PHeap}, AgS F H78 k r1.1 → Triple Try.prog 11 #[.pointer (at0 k), Rnd.vM (17, y2, 0, 9, ⟨#[97]⟩, 4, 6, 18, 0, 2, ⟨none, 0, 0, []⟩, ⟨none, 0, 0, []⟩, ⟨none, 0, 0, []⟩)] H78 fun v H' => ∃ b n c s, v = .slice b n c ∧ AgS F H' k s ∧ MInv p L s := fun y2 H78 hA78 => by
        refine (take_ok (m := (17, y2, 0, 9, ⟨#[97]⟩, 4, 6, 18, 0, 2, ⟨none, 0, 0, []⟩, ⟨none, 0, 0, []⟩, ⟨none, 0, 0, []⟩)) hA78 ⟨RdL.nil _ _ _, RdL.nil _ _ _, RdL.nil _ _ _, by simp, by simp, by simp⟩).mono ?_
        rintro _ H' ⟨b1, n1, c1, rfl, _, hA'⟩
        exact ⟨b1, n1, c1, _, rfl, hA', minv_take hMS hI1 (.inr rfl)⟩
      obtain ⟨y1, y2, y3, y4, y5, y6, y7, y8, y9, y10, ⟨ya, yb, yc, yl⟩, ⟨za, zb, zc, zl⟩, ⟨wa, wb, wc, wl⟩⟩ := x
      refine ⟨⟨by omega⟩, rd51.ob t0 (by omega), y1, y2, y3, y4, y5, y6, y7, y8, y9, y10, ya, yb, yc, za, zb, zc, wa, wb, wc, hxr, ht1.mono ?_⟩
      rintro _ H78 ⟨b1, n1, c1, rfl, _, hA78⟩
      refine ⟨b1, n1, c1, rfl, (ht2 y2 hA78).mono ?_⟩
      rintro _ H83 ⟨b3, n3, c3, s3, rfl, hA83, hI3⟩
      exact ⟨b3, n3, c3, rfl, ⟨by omega, by omega, s3, hA83, hI3⟩, ⟨by simp only; omega⟩⟩
  · refine (done_ok hA).mono ?_
    rintro _ H88 ⟨hH, hv⟩
    have s88 : Sub H H88 := by rw [hH]; exact s32.trans s51
    rcases hv with ⟨ho, rfl⟩ | ⟨ho, x, rfl, _⟩
    · exact ⟨_, _, _, _, _, _, _, _, _, _, _, _, _, _, _, _, rfl, fun e => (by simp at e), fun _ => al s88⟩
    · refine ⟨_, _, _, _, _, _, _, _, _, _, _, _, _, _, _, _, rfl, fun _ => ⟨fun e7 => ?_, fun _ => al s88⟩, fun e => (by simp at e)⟩
      have hok' : s.ok = true := by simpa using e7
      obtain ⟨v1, v2, v3⟩ := hI.c ho hok'
      refine ⟨fun _ => ⟨fun _ => ⟨fun _ => al s88, fun e => ?_⟩, fun e => ?_⟩, fun e => ?_⟩
      · rw [v1] at e; cases e
      · rw [v3] at e; cases e
      · rw [v2] at e; cases e
end Go.Agr
