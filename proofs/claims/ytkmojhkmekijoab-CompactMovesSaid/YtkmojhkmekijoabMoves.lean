/- What the law CompactMoves tells: true. -/
import Derived.Test.YtkmojhkmekijoabGapC
namespace Go.Comp
open Go.Vx Go.Vc Go.Proofs

theorem moves_law {H : PHeap} {oa : Option Addr} {n c : Nat} {l : List Rn} {slots : Int} (hl : RdL H E2 2 oa n l) (h64 : ∀ r ∈ l, -9223372036854775808 ≤ r.1 ∧ r.1 ≤ 9223372036854775807 ∧ -9223372036854775808 ≤ r.2 ∧ r.2 ≤ 9223372036854775807) :
    Triple Try.prog 4 #[.slice oa n c, .int .i64 slots] H fun v H' => v = .bool true ∧ Sub H H' := by
  have alive : ∀ {H1 : PHeap}, Sub H H1 → Triple Try.prog 11 #[] H1 fun v H' => ∃ b, v = Value.bool b ∧ Value.bool b = Value.bool true ∧ Sub H H' := fun hs => alive23_ok.mono fun v H' ⟨h1, h2⟩ => ⟨true, h1, rfl, hs.trans h2⟩
  refine lawMoves.vc oa n c slots H _ ⟨fun _ => alive (Sub.refl H), fun h0 => ?_⟩
  have hn : n ≤ 60 := by simp at h0; omega
  have hll := hl.len
  refine (refApart_ok hl hn h64).mono ?_
  rintro _ H1 ⟨rfl, hs1⟩
  refine ⟨_, rfl, (as_ok (hl.mono hs1) hn).mono ?_⟩
  rintro _ H2 ⟨b2, k2, rfl, how2, hs2, _⟩
  refine ⟨b2, n, k2, rfl, (apart_ok (how2.rd (E := E2) (sz := 2) (by omega) (fun _ => rfl)) hn h64).mono ?_⟩
  rintro _ _ ⟨rfl, rfl⟩
  refine ⟨_, rfl, fun h => by simp at h, fun _ => (as_ok (hl.mono (hs1.trans hs2)) hn).mono ?_⟩
  rintro _ H3 ⟨b3, k3, rfl, how3, hs3, _⟩
  refine ⟨b3, n, k3, rfl, (moves_ok (how3.rd (E := E2) (sz := 2) (by omega) (fun _ => rfl)) hn h64).mono ?_⟩
  rintro _ H4 ⟨b4, m, k4, rfl, how4, hs4, _⟩
  have hs04 := hs1.trans (hs2.trans (hs3.trans hs4))
  refine ⟨b4, m, k4, rfl, (as_ok (hl.mono hs04) hn).mono ?_⟩
  rintro _ H5 ⟨b5, k5, rfl, how5, hs5, _⟩
  refine ⟨b5, n, k5, rfl, (gaps_ok (how5.rd (E := E2) (sz := 2) (by omega) (fun _ => rfl)) hn h64).mono ?_⟩
  rintro _ H6 ⟨b6, g, k6, rfl, how6, hs6, _⟩
  have hs06 := hs04.trans (hs5.trans hs6)
  have hM := (how4.rd (E := E3) (sz := 3) (by omega) (fun _ => rfl)).mono (hs5.trans hs6)
  have hG := how6.rd (E := E2) (sz := 2) (by omega) (fun _ => rfl)
  have hm := hM.len
  have hg := hG.len
  refine ⟨b6, g, k6, rfl, fun ha => ?_, fun ha => ?_⟩
  · have hap : ¬ apartF 0 l = true := by simpa using ha
    have hm0 : m = 0 := by rw [← hm, movesOf, if_neg hap]; rfl
    have hg0 : g = 0 := by rw [← hg, gapsOf, if_neg (fun h => hap h.1)]; rfl
    subst hm0 hg0
    exact ⟨fun _ => alive hs06, fun h => by simp [IntKind.wrap, IntKind.bits, IntKind.signed] at h⟩
  have hap : apartF 0 l = true := by simpa using ha
  have hge := apart_ge hap
  have hN : ∀ r ∈ l, 0 ≤ r.2 ∧ r.2 ≤ 256 := fun r hr => by have := hge r hr; omega
  rw [movesOf, if_pos hap] at hM hm
  have hmn : m ≤ n := by
    have := moveOf_len (packL 0 l)
    rw [packL_len] at this
    unfold movesF at hm
    omega
  refine ⟨fun l' H' => match l' with | [.int _ i, .int _ k] => 0 ≤ k ∧ k ≤ n ∧ i = ((((packL 0 l).take k.toNat).flatMap moveOf).length : Nat) ∧ H' = H6 | _ => False, fun l' _ => match l' with | [_, .int _ k] => ((n : Int) - k).toNat | _ => 0, ⟨by omega, by omega, by simp, rfl⟩, ?_⟩
  rintro i k H7 ⟨k0, k1, hi, rfl⟩
  refine ⟨fun hk => ?_, fun hk => ?_⟩
  · have hkn : k < n := by simpa using hk
    have hl7 := hl.mono hs06
    obtain ⟨r, hr, hrd⟩ := hl7.ex k0 hkn
    have ht := to_ok (k := k.toNat) hl7 (by omega) hn hN (c := c)
    rw [show ((k.toNat : Nat) : Int) = k by omega] at ht
    refine ⟨hl.ob k0 hkn, r.1, r.2, hrd, ht.mono ?_⟩
    rintro _ _ ⟨rfl, rfl⟩
    have hp := packL_get l 0 k.toNat r hr
    rw [Int.zero_add] at hp
    have htk : (packL 0 l).take (k.toNat + 1) = (packL 0 l).take k.toNat ++ [(r, sumN (l.take k.toNat))] := by rw [List.take_add_one, hp]; rfl
    have hsucc : (k + 1).toNat = k.toNat + 1 := by omega
    have e1 : IntKind.i64.wrap (k + 1) = k + 1 := wrap64 (by omega) (by omega)
    have hil : (((packL 0 l).take k.toNat).flatMap moveOf).length ≤ 60 := by
      have := moveOf_len ((packL 0 l).take k.toNat)
      rw [List.length_take, packL_len] at this
      omega
    have e2 : IntKind.i64.wrap (i + 1) = i + 1 := wrap64 (by omega) (by omega)
    rw [e1, e2]
    refine ⟨_, rfl, fun hc => ⟨_, Sub.refl _, ?_⟩, fun hc => ⟨⟨by omega, by omega, ?_, rfl⟩, ⟨by simp only; omega⟩⟩⟩
    · have hne : r.1 ≠ sumN (l.take k.toNat) := fun e => by rw [e] at hc; simp at hc
      have hmv : moveOf (r, sumN (l.take k.toNat)) = [(r.1, sumN (l.take k.toNat), r.2)] := by unfold moveOf; rw [if_pos (by simpa using hne)]
      have hget : (movesF l)[(((packL 0 l).take k.toNat).flatMap moveOf).length]? = some (r.1, sumN (l.take k.toNat), r.2) := by
        have : movesF l = ((packL 0 l).take k.toNat).flatMap moveOf ++ ((packL 0 l).drop k.toNat).flatMap moveOf := by
          unfold movesF; rw [← List.flatMap_append, List.take_append_drop]
        rw [this, List.getElem?_append_right (Nat.le_refl _), Nat.sub_self]
        have hd : (packL 0 l).drop k.toNat = (r, sumN (l.take k.toNat)) :: (packL 0 l).drop (k.toNat + 1) := by rw [List.drop_eq_getElem?_toList_append, hp]; rfl
        rw [hd, List.flatMap_cons, hmv]
        rfl
      have hlt : (((packL 0 l).take k.toNat).flatMap moveOf).length < m := by have := (List.getElem?_eq_some_iff.1 hget).1; omega
      have hmd := hM.at (i := i) (by omega) (by rw [hi, Int.toNat_natCast]; exact hget)
      refine ⟨fun _ => ⟨hM.ob (by omega) (by omega), r.1, sumN (l.take k.toNat), r.2, hmd, fun h => by simp at h, fun _ => ⟨⟨by omega, by omega, ?_, rfl⟩, ⟨by simp only; omega⟩⟩⟩, fun h => ?_⟩
      · rw [hsucc, htk, List.flatMap_append, List.length_append, hi]
        simp [hmv]
      · simp at h; omega
    · have he : r.1 = sumN (l.take k.toNat) := by
        have : ¬ (sumN (l.take k.toNat) ≠ r.1) := by simpa using hc
        exact (Classical.not_not.1 this).symm
      have hmv : moveOf (r, sumN (l.take k.toNat)) = [] := by unfold moveOf; rw [if_neg (by simpa using he)]
      rw [hsucc, htk, List.flatMap_append, hi]
      simp [hmv]
  · have hkn : k = n := by simp at hk; omega
    have him : i = m := by
      rw [hi, hkn, Int.toNat_natCast, List.take_of_length_le (by rw [packL_len]; omega), ← hm]; rfl
    refine ⟨fun hc => ?_, fun hc => ?_⟩
    · have hsl : 1 ≤ slots ∧ slots ≤ 256 := by simp only [Bool.cond_eq_ite] at hc; grind
      refine (refGaps_ok (hl.mono hs06) hn h64 hap hsl.1 hsl.2).mono ?_
      rintro _ H8 ⟨b8, w, k8, rfl, how8, hs8, _⟩
      have hW := how8.rd (E := E2) (sz := 2) (by omega) (fun _ => rfl)
      rw [gapsOf, if_pos ⟨hap, hsl⟩] at hG hg
      have hw : w = g := by rw [← hW.len, ← hg]
      subst hw
      have hG8 := hG.mono hs8
      have hg256 : w ≤ 256 := by
        have h5 := scan_gaps (covB l) slots.toNat l 0 hap (fun _ _ => rfl) (fun r hr => by simp [scan] at hr) (by omega)
        rw [show ((slots.toNat : Nat) : Int) = slots by omega] at h5
        have h6 := scan_len (covB l) slots.toNat
        rw [h5] at h6
        simp only [scan, List.nil_append] at h6
        have h7 : (gapsF slots 0 l).length = w := hg
        have : gapsF slots ((0 : Nat) : Int) l = gapsF slots 0 l := rfl
        rw [this] at h6
        omega
      refine ⟨b8, w, k8, rfl, fun h => ?_, fun _ => ⟨fun l' H' => match l' with | [.int _ j] => 0 ≤ j ∧ j ≤ w ∧ H' = H8 | _ => False, fun l' _ => match l' with | [.int _ j] => ((w : Int) - j).toNat | _ => 0, ⟨by omega, by omega, rfl⟩, ?_⟩⟩
      · rw [him] at h; simp at h
      rintro j H9 ⟨j0, j1, rfl⟩
      refine ⟨fun hj => ?_, fun _ => alive (hs06.trans hs8)⟩
      have hjw : j < w := by simpa using hj
      obtain ⟨q, hq, hqd⟩ := hG8.ex j0 hjw
      have hqd2 := hW.at j0 hq
      have f0 : ∀ {oa : Option Addr}, Reads H9 oa (E2 q) → Reads H9 (fldA oa 0) [.int .i64 q.1] := fun h => h.fld 0 (fun j v hv => by cases j with | zero => simpa [E2, pairE, intE] using hv | succ j => simp at hv)
      have f1 : ∀ {oa : Option Addr}, Reads H9 oa (E2 q) → Reads H9 (fldA oa 1) [.int .i64 q.2] := fun h => h.fld 1 (fun j v hv => by cases j with | zero => simpa [E2, pairE, intE] using hv | succ j => simp at hv)
      have e1 : IntKind.i64.wrap (j + 1) = j + 1 := wrap64 (by omega) (by omega)
      rw [e1]
      exact ⟨H9, Sub.refl _, hG8.ob j0 hjw, ⟨hG8.elem_ne j0 hjw⟩, q.1, f0 hqd, hW.ob j0 hjw, ⟨hW.elem_ne j0 hjw⟩, q.1, f0 hqd2, fun _ => ⟨hG8.ob j0 hjw, ⟨hG8.elem_ne j0 hjw⟩, q.2, f1 hqd, hW.ob j0 hjw, ⟨hW.elem_ne j0 hjw⟩, q.2, f1 hqd2,
        fun h => by simp at h, fun _ => ⟨⟨by omega, by omega, rfl⟩, ⟨by simp only; omega⟩⟩⟩, fun h => by simp at h⟩
    · have hsl : ¬ (1 ≤ slots ∧ slots ≤ 256) := by simp only [Bool.cond_eq_ite] at hc; grind
      have hg0 : g = 0 := by rw [← hg, gapsOf, if_neg (fun h => hsl h.2)]; rfl
      subst hg0
      refine ⟨fun h => ?_, fun _ => ⟨fun l' H' => match l' with | [.int _ j] => 0 ≤ j ∧ H' = H7 | _ => False, fun _ _ => 0, ⟨by omega, rfl⟩, ?_⟩⟩
      · rw [him] at h; simp at h
      rintro j H9 ⟨j0, rfl⟩
      refine ⟨fun hj => ?_, fun _ => alive hs06⟩
      simp at hj
      omega
end Go.Comp
