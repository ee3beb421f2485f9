/- What the law CompactPacks tells: true. -/
import Derived.Test.YtkmojhkmekijoaaCompM
import Derived.Test.YtkmojhkmekijoaaPackP
import Derived.Test.YtkmojhkmekijoaaVcPacks
namespace Go.Comp
open Go.Vx Go.Vc Go.Proofs

theorem tRefs : ElemT Try.prog 22 32 2 16 := .of (by kernel_rfl)
theorem packs_ok {H : PHeap} {oa : Option Addr} {n c : Nat} {l : List Rn} (hl : RdL H E2 2 oa n l) (h64 : ∀ r ∈ l, -9223372036854775808 ≤ r.1 ∧ r.1 ≤ 9223372036854775807 ∧ -9223372036854775808 ≤ r.2 ∧ r.2 ≤ 9223372036854775807) :
    Triple Try.prog 3 #[.slice oa n c] H fun v H' => v = .bool true ∧ Sub H H' := by
  have alive : ∀ {H1 : PHeap}, Sub H H1 → Triple Try.prog 6 #[] H1 fun v H' => ∃ b, v = Value.bool b ∧ Value.bool b = Value.bool true ∧ Sub H H' := fun hs => alive23_ok.mono fun v H' ⟨h1, h2⟩ => ⟨true, h1, rfl, hs.trans h2⟩
  refine packs.vc oa n c H _ ⟨fun h0 => ?_, fun _ => alive (Sub.refl H)⟩
  have hn : n ≤ 60 := by simp at h0; omega
  refine (refApart_ok hl hn h64).mono ?_
  rintro _ H1 ⟨rfl, hs1⟩
  refine ⟨_, rfl, fun _ => alive hs1, fun hb k10 hk10 => ?_⟩
  have hap : apartF 0 l = true := by simpa using hb
  have hge := apart_ge hap
  have hN : ∀ r ∈ l, 0 ≤ r.2 ∧ r.2 ≤ 256 := fun r hr => by have := hge r hr; omega
  have hk10' : H k10 = none := by
    cases e : H k10 with
    | none => rfl
    | some o => rw [hs1.le _ _ e] at hk10; cases hk10
  have hsk := Sub.upd (.cells #[] 32 (0, 0)) hk10
  have hoffk : Off H (at0 k10) := fun a ha => by cases ha; exact hk10'
  refine append_rd tRefs (E := E2) (sz := 2) (l := []) (l2 := l) (fun _ => rfl) ⟨by simp, .inr ⟨k10, #[], rfl, upd_eq .., Nat.le_refl _, Nat.zero_le _, by simp, by simp⟩⟩ (hl.mono (hs1.trans hsk)) oneE2 (by simp [maxLen]; omega) (by omega) ?_
  intro b k H2 how hf hfr
  have hs2 : Sub H H2 := hf.sub (hs1.trans hsk) hoffk
  have hob : Off H b := hfr.off (hs1.trans hsk) hoffk
  rw [List.nil_append] at how
  rw [Nat.zero_add] at how ⊢
  refine ⟨b, n, k, rfl, (as_ok (hl.mono hs2) hn).mono ?_⟩
  rintro _ H3 ⟨b2, k2, rfl, how2, hs3, hob2⟩
  have hll := hl.len
  refine ⟨b2, n, k2, rfl, (moves_ok (how2.rd (E := E2) (sz := 2) (by omega) (fun _ => rfl)) hn h64).mono ?_⟩
  rintro _ H4 ⟨b3, m, k3, rfl, how3, hs4, hob3⟩
  rw [movesOf, if_pos hap] at how3
  have hrd3 := how3.rd (E := E3) (sz := 3) (by omega) (fun _ => rfl)
  have hm := hrd3.len
  have hmn : m ≤ n := by
    have := moveOf_len (packL 0 l)
    rw [packL_len] at this
    unfold movesF at hm
    omega
  have how4 : OwnL H4 32 E2 2 b n k l := how.mono fun a o ha ho => hs4.le _ _ (hs3.le _ _ ho)
  have hsep : ∀ a a', b3 = some a → b = some a' → a.block ≠ a'.block := by
    intro a a' ha ha' e
    have h1 := hob3 a ha
    rcases how.row with ⟨e1, _⟩ | ⟨g, cur, e1, hg, _⟩
    · rw [e1] at ha'; cases ha'
    · rw [e1] at ha'
      cases ha'
      rw [e] at h1
      rw [hs3.le _ _ hg] at h1
      cases h1
  have hsH4 : Sub H H4 := hs2.trans (hs3.trans hs4)
  refine ⟨b3, m, k3, rfl, fun l' H' => match l' with | [.int _ j] => 0 ≤ j ∧ j ≤ m ∧ ∃ i, OwnL H' 32 E2 2 b n k (pkF 0 i l) ∧ (movesF l).drop j.toNat = ((packL 0 l).drop i).flatMap moveOf ∧ RdL H' E3 3 b3 m (movesF l) ∧ Sub H H' | _ => False,
    fun l' _ => match l' with | [.int _ j] => ((m : Int) - j).toNat | _ => 0, ⟨by omega, by omega, 0, by rw [pk_zero]; exact how4, rfl, hrd3, hsH4⟩, ?_⟩
  clear hsH4 how4 hrd3 how3 hs4 hob3 how2 hs3 hob2 how hf hfr hs2 hsk
  rintro j H5 ⟨j0, j1, i, how, hrest, hrd3, hs⟩
  have hpk := pk_apart l i hap (Int.le_refl 0)
  refine ⟨fun h => ?_, fun h => ?_⟩
  · have hj : j < m := by simpa using h
    obtain ⟨mv, hmv, hmvd⟩ := hrd3.ex j0 hj
    have hd : (movesF l).drop j.toNat = mv :: (movesF l).drop (j.toNat + 1) := by
      rw [List.drop_eq_getElem?_toList_append, hmv]; rfl
    obtain ⟨jj, r, hr, hmve, hne, hrest2, hpe⟩ := next_move l _ i mv _ rfl (hrest.symm.trans hd)
    rw [hpe] at how hpk
    subst hmve
    have hrd := how.rd (E := E2) (sz := 2) (by omega) (fun _ => rfl)
    have hpl : (pkF 0 jj l).length = n := by rw [pk_len]; exact hll
    have hjn : jj < n := by have := (List.getElem?_eq_some_iff.1 hr).1; omega
    have hpj : (pkF 0 jj l)[jj]? = some r := by rw [pk_get l 0 jj jj r hr, if_neg (by omega)]
    have hsr := sumN_le hap (Int.le_refl 0) jj r hr
    have hsb := sumN_bound hN jj
    have hrg := hge r (List.mem_of_getElem? hr)
    refine ⟨hrd3.ob j0 hj, r.1, sumN (l.take jj), r.2, hmvd, fun l' H' => match l' with | [.int _ x, .int _ y] => 0 ≤ y ∧ y ≤ n ∧ x = (if (jj : Int) < y then (jj : Int) else -1) ∧ H' = H5 | _ => False,
      fun l' _ => match l' with | [_, .int _ y] => ((n : Int) - y).toNat | _ => 0, ⟨by omega, by omega, by rw [if_neg (by omega)], rfl⟩, ?_⟩
    rintro x y H6 ⟨y0, y1, hx, rfl⟩
    refine ⟨fun hy => ?_, fun hy => ?_⟩
    · have hyn : y < n := by simpa using hy
      obtain ⟨q, hq, hqd⟩ := hrd.ex y0 hyn
      have e1 : IntKind.i64.wrap (y + 1) = y + 1 := wrap64 (by omega) (by omega)
      rw [e1]
      have q0 := hqd.fld 0 (l2 := [.int .i64 q.1]) (fun j v hv => by cases j with | zero => simpa [E2, pairE, intE] using hv | succ j => simp at hv)
      have q1 := hqd.fld 1 (l2 := [.int .i64 q.2]) (fun j v hv => by cases j with | zero => simpa [E2, pairE, intE] using hv | succ j => simp at hv)
      refine ⟨H6, Sub.refl _, hrd.ob y0 hyn, ⟨hrd.elem_ne y0 hyn⟩, q.1, q0, fun hc => ⟨hrd.ob y0 hyn, ⟨hrd.elem_ne y0 hyn⟩, q.2, q1, ⟨by omega, by omega, ?_, rfl⟩, ⟨by simp only; omega⟩⟩, fun hc => ⟨⟨by omega, by omega, ?_, rfl⟩, ⟨by simp only; omega⟩⟩⟩
      · have hyj := pk_only hap hr hne hq (by simpa using hc)
        rw [hyj, hpj] at hq
        cases hq
        simp only [beq_self_eq_true, cond_true]
        rw [if_pos (by omega)]; omega
      · have : y ≠ jj := fun e => by
          rw [e, Int.toNat_natCast, hpj] at hq
          cases hq
          simp at hc
        rw [hx]
        by_cases h2 : (jj : Int) < y
        · rw [if_pos h2, if_pos (by omega)]
        · rw [if_neg h2, if_neg (by omega)]
    · have hyn : y = n := by simp at hy; omega
      rw [hyn, if_pos (by omega)] at hx
      subst hx
      refine ⟨fun hc => ?_, fun _ => ?_⟩
      · exfalso
        simp only [Bool.cond_eq_ite] at hc
        grind
      · obtain ⟨H7, hw, how7, hf7⟩ := how.set (E := E2) (sz := 2) (fun _ => rfl) (by omega) (show (0 : Int) ≤ jj by omega) (show (jj : Int) < n by omega) (sumN (l.take jj), r.2)
        have hjd := hrd.at (i := jj) (by omega) (by rw [Int.toNat_natCast]; exact hpj)
        have hw2 := Writes.part (A := []) (l2 := [.int .i64 (sumN (l.take jj))]) (B := [.int .i64 r.2]) (old := [.int .i64 r.1]) hw hjd rfl
        have hpset := pk_set l 0 jj r hr
        rw [Int.zero_add] at hpset
        rw [Int.toNat_natCast, ← hpset] at how7
        have hs7 := hf7.sub hs hob
        have hap7 := pk_apart l (jj + 1) hap (Int.le_refl 0)
        have hge7 := apart_ge hap7
        have hrd7 := how7.rd (E := E2) (sz := 2) (by omega) (fun _ => rfl)
        refine ⟨hrd.ob (by omega) (by omega), ⟨hrd.elem_ne (by omega) (by omega)⟩, H7, hw2, (map_ok hrd7 hn (fun q hq => by have := hge7 q hq; omega)).mono ?_⟩
        rintro _ H8 ⟨a8, c8, b8, out8, rfl, hb8, _, _, hs8, _⟩
        have hb8' : b8 = true := hb8.2 ((apart_iff _).1 hap7).1
        subst hb8'
        have e1 : IntKind.i64.wrap (j + 1) = j + 1 := wrap64 (by omega) (by omega)
        refine ⟨_, _, _, _, rfl, fun h => by simp at h, fun _ => ?_⟩
        rw [e1]
        refine ⟨⟨by omega, by omega, jj + 1, how7.mono fun a o _ ho => hs8.le _ _ ho, ?_, (hrd3.frame hf7 hsep).mono hs8, hs7.trans hs8⟩, ⟨by simp only; omega⟩⟩
        rw [show (j + 1).toNat = j.toNat + 1 by omega]
        exact hrest2
  · have hj : j = m := by simp at h; omega
    have hrd := how.rd (E := E2) (sz := 2) (by omega) (fun _ => rfl)
    rw [hj, Int.toNat_natCast, List.drop_of_length_le (by omega)] at hrest
    have hlast := last_move l _ i rfl hrest.symm
    refine ⟨fun l' H' => match l' with | [.int _ y] => 0 ≤ y ∧ y ≤ n ∧ H' = H5 | _ => False, fun l' _ => match l' with | [.int _ y] => ((n : Int) - y).toNat | _ => 0, ⟨by omega, by omega, rfl⟩, ?_⟩
    rintro y H6 ⟨y0, y1, rfl⟩
    refine ⟨fun hy => ?_, fun _ => alive hs⟩
    have hyn : y < n := by simpa using hy
    obtain ⟨q, hq, hqd⟩ := hrd.ex y0 hyn
    have hly : y.toNat < l.length := by omega
    have hqv : q = (sumN (l.take y.toNat), (l[y.toNat]).2) := by
      have := pk_get l 0 l.length y.toNat _ (List.getElem?_eq_getElem hly)
      rw [if_pos hly, Int.zero_add, ← hlast, hq] at this
      exact Option.some.inj this
    have hgeP := apart_ge hpk
    refine ⟨hrd.ob y0 hyn, q.1, q.2, hqd, H6, Sub.refl _, ?_⟩
    have ht := to_ok (k := y.toNat) hrd (by omega) hn (fun r hr => by have := hgeP r hr; omega) (c := k)
    rw [show ((y.toNat : Nat) : Int) = y by omega] at ht
    refine ht.mono ?_
    rintro _ _ ⟨rfl, rfl⟩
    have e1 : IntKind.i64.wrap (y + 1) = y + 1 := wrap64 (by omega) (by omega)
    rw [e1]
    refine ⟨_, rfl, Sub.refl _, fun hc => ?_, fun _ => ⟨⟨by omega, by omega, rfl⟩, ⟨by simp only; omega⟩⟩⟩
    exfalso
    rw [pk_sum, hqv] at hc
    simp at hc
end Go.Comp
