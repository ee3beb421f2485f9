/- The contracts of numbers that rise, but some: by the heap, and by the reference. -/
import Derived.Test.YtllbdocjgdnofaaHpA
namespace Go.Hp
open Go.Vx Go.Vc Go.Proofs

theorem Hq.app {F H H' H0 : PHeap} {k : Nat} {h : List Int} {oa oa' : Option Addr} {n c n' c' : Nat} {l l' : List Int} (hq : Hq F H k h) (hF : OwnL F 3 iE 1 oa n c l) (hf : Vx.Frame oa H H') (hfr : Vx.Fresh oa oa' H) (how : OwnL H' 3 iE 1 oa' n' c' l')
    (h0 : Sub H0 F) (hoff : Off H0 oa) : ∃ F', Sub H0 F' ∧ Hq F' H' k h ∧ OwnL F' 3 iE 1 oa' n' c' l' ∧ Off H0 oa' := by
  obtain ⟨F', g1, g2, g3, g4⟩ := hf.grab (oa' := oa') hq.sub
  obtain ⟨ob, m, q, hb, ho, hof, hne⟩ := hq.row
  have hoff' := hfr.off (h0.trans hq.sub) hoff
  -- the slice's block is none of the heap's
  have inF : ∀ a, oa = some a → ∃ o, F a.block = some o := fun a ha => by subst ha; exact hF.blk
  have ne1 : ∀ a, oa = some a → a.block ≠ k := fun a ha e => by obtain ⟨o, h1⟩ := inF a ha; rw [e, hq.off] at h1; cases h1
  have ne2 : ∀ a, oa' = some a → a.block ≠ k := hfr.ne hb ne1
  have hbk : ∀ b, ob = some b → ∃ o, H b.block = some o := fun b hb' => by subst hb'; exact ho.blk
  have ne3 : ∀ b, ob = some b → ∀ a, oa = some a → a.block ≠ b.block := fun b hb' a ha e => by
    obtain ⟨o, h1⟩ := inF a ha
    rw [e, hof b hb'] at h1; cases h1
  have ne4 : ∀ b, ob = some b → ∀ a, oa' = some a → a.block ≠ b.block := fun b hb' => by
    obtain ⟨o, h1⟩ := hbk b hb'
    exact hfr.ne h1 (ne3 b hb')
  refine ⟨F', ⟨fun q o hq' => g4 q o (h0.le _ _ hq') fun a ha e => by rw [e, hoff a ha] at hq'; cases hq'⟩, ⟨g1, g3 k hq.off fun a ha e => ne2 a ha e.symm, ob, m, q, hf.bx hb ne1, ?_, ?_, hne⟩, ?_, hoff'⟩
  · exact Owns.mono ho fun b o hb' h1 => hf _ _ h1 fun a ha e => ne3 b hb' a ha e.symm
  · exact fun b hb' => g3 _ (hof b hb') fun a ha e => ne4 b hb' a ha e.symm
  · exact Owns.mono how fun a o ha h1 => by rw [g2 a ha]; exact h1
theorem some_ok {F H : PHeap} {k : Nat} {l : List Int} (h : Hq F H k l) : Triple Try.prog 45 #[hv k] H fun v H' => v = .bool (!l.isEmpty) ∧ H' = H := by
  refine some.vc (hv k) H _ (len_ok h ⟨_, rfl, ?_, rfl⟩)
  congr 1
  cases l with
  | nil => rfl
  | cons x xs => simp
theorem rest_ok {H : PHeap} {oa ob : Option Addr} {n c m d : Nat} {l w : List Int} (hl : RdL H iE 1 oa n l) (hw : RdL H iE 1 ob m w) (hn : n ≤ 100000) (hm : m ≤ 100000) :
    Triple Try.prog 26 #[.slice oa n c, .slice ob m d] H fun v H' => ∃ b k q, v = .slice b k q ∧ OwnL H' 3 iE 1 b k q (restL l w) ∧ Sub H H' ∧ Off H b := by
  have hll := hl.len
  refine rest.vc oa n c ob m d H _ fun k7 hk7 k8 hk8 => ?_
  have hne78 : k7 ≠ k8 := fun e => by rw [← e, upd_eq] at hk8; cases hk8
  have hk8' : H k8 = none := by rw [Vx.upd_ne _ _ hne78.symm] at hk8; exact hk8
  have s7 := Sub.upd (.cells #[] 3 (0, 0)) hk7
  have s8 := Sub.upd (.cells #[Value.slice (at0 k7) 0 0] 72 (0, 0)) hk8
  have hq0 : Hq H ((H.upd k7 (.cells #[] 3 (0, 0))).upd k8 (.cells #[Value.slice (at0 k7) 0 0] 72 (0, 0))) k8 [] :=
    ⟨s7.trans s8, hk8', at0 k7, 0, 0, Bx.new _ k8 _ _, Owns.mono (Owns.empty H k7 3 1) fun a o _ hb => s8.le _ _ hb, off_at0 hk7, fun a ha => by cases ha; exact hne78⟩
  refine ⟨fun t H' => match t with | [.int _ i] => 0 ≤ i ∧ i ≤ n ∧ ∃ h, Hq H H' k8 h ∧ Hn h h.length ∧ h.length ≤ i.toNat ∧ ∀ x, x ∈ h ↔ x ∈ l.take i.toNat ∧ x ∉ w | _ => False, fun t _ => match t with | [.int _ i] => (n - i).toNat | _ => 0,
    ⟨by omega, by omega, [], hq0, fun c c0 c1 => by simp at c1, by simp, by simp⟩, ?_⟩
  rintro i H12 ⟨i0, i1, h, hq, hhn, hhl, hmem⟩
  obtain ⟨i, rfl⟩ : ∃ j : Nat, i = j := ⟨i.toNat, by omega⟩
  rw [Int.toNat_natCast] at hhl hmem
  refine ⟨fun hi => ?_, fun hi => ?_⟩
  · have hi' : i < n := by simpa using hi
    have hl12 := hl.mono hq.sub
    obtain ⟨x, hx, hxr⟩ := hl12.ex (i := (i : Int)) (by omega) (by omega)
    rw [Int.toNat_natCast] at hx
    have htk : l.take (i + 1) = l.take i ++ [x] := by rw [List.take_add_one, hx]; rfl
    refine ⟨hl12.ob (by omega) (by omega), x, hxr, (Rnd.contains_ok (hw.mono hq.sub) hm).mono ?_⟩
    rintro _ _ ⟨rfl, rfl⟩
    rw [show IntKind.i64.wrap ((i : Int) + 1) = (i : Int) + 1 from Rnd.wrapS (by omega) (by omega)]
    refine ⟨_, rfl, fun e => ?_, fun e => ?_⟩
    · have hxw : x ∉ w := by simpa using e
      refine (hpush_ok (x := x) hq hhn (by omega)).mono ?_
      rintro _ H18 ⟨rfl, h', q', n', l', m'⟩
      refine ⟨rfl, ⟨by omega, by omega, h', q', n', by omega, fun y => ?_⟩, ⟨by simp only; omega⟩⟩
      rw [m', hmem, show ((i : Int) + 1).toNat = i + 1 by omega, htk, List.mem_append, List.mem_singleton]
      constructor
      · rintro (⟨h1, h2⟩ | rfl)
        · exact ⟨.inl h1, h2⟩
        · exact ⟨.inr rfl, hxw⟩
      · rintro ⟨h1 | rfl, h2⟩
        · exact .inl ⟨h1, h2⟩
        · exact .inr rfl
    · have hxw : x ∈ w := by simpa using e
      refine ⟨⟨by omega, by omega, h, hq, hhn, by omega, fun y => ?_⟩, ⟨by simp only; omega⟩⟩
      rw [hmem, show ((i : Int) + 1).toNat = i + 1 by omega, htk, List.mem_append, List.mem_singleton]
      constructor
      · rintro ⟨h1, h2⟩; exact ⟨.inl h1, h2⟩
      · rintro ⟨h1 | rfl, h2⟩
        · exact ⟨h1, h2⟩
        · exact absurd hxw h2
  · have hi' : ¬ i < n := by simpa using hi
    rw [List.take_of_length_le (by omega)] at hmem
    have hset : ∀ x, x ∈ h ↔ x ∈ restL l w := fun x => by rw [hmem, (restL_spec l w).2]
    refine ⟨fun t H' => match t with | [.slice a k q] => ∃ F h o, Sub H F ∧ Hq F H' k8 h ∧ Hn h h.length ∧ OwnL F 3 iE 1 a k q o ∧ Off H a ∧ Asc o ∧ (∀ y ∈ o, ∀ x ∈ h, y ≤ x) ∧ (∀ x, x ∈ restL l w ↔ x ∈ o ∨ x ∈ h) ∧ h.length + o.length ≤ 100000 | _ => False,
      fun t H' => match t with | [.slice _ _ _] => (match H' k8 with | some (.cells c _ _) => (match c.toList with | [.slice _ n _] => n | _ => 0) | _ => 0) | _ => 0,
      ⟨H, h, [], Sub.refl _, hq, hhn, Owns.nil _ _ 1, Off.none _, List.Pairwise.nil, by simp, fun x => by rw [← hset]; simp, by simp; omega⟩, ?_⟩
    rintro a k q H24 ⟨F, h2, o, sF, q2, n2, how, hoff, hasc, hle, hmm, hlen⟩
    -- how many there are, in the block
    have meas : ∀ {F H' : PHeap} {h : List Int}, Hq F H' k8 h → (match H' k8 with | some (.cells c _ _) => (match c.toList with | [.slice _ n _] => n | _ => 0) | _ => 0) = h.length := by
      intro F H' h hq
      obtain ⟨oa, n, c, hb, ho, _, _⟩ := hq.row
      have hr := (ho.rd (E := iE) (sz := 1) (by omega) iLen).len
      unfold Bx at hb
      rw [hb]
      simpa using hr.symm
    refine (some_ok q2).mono ?_
    rintro _ H26 ⟨rfl, hH⟩
    obtain rfl := hH.symm
    refine ⟨_, rfl, fun e => ?_, fun e => ?_⟩
    · have hne : h2 ≠ [] := fun e' => by rw [e'] at e; simp at e
      have hpos : 0 < h2.length := List.length_pos_iff.2 hne
      obtain ⟨oa2, n3, c3, hb2, ho2, hof2, hne2⟩ := q2.row
      have hr2 := ho2.rd (E := iE) (sz := 1) (by omega) iLen
      have hn3 := hr2.len
      have h0 : Reads H24 (elemA oa2 0 1) [vI (G h2 0)] := hr2.at (i := 0) (by omega) (by simpa using G_lt (l := h2) (i := 0) hpos)
      refine ⟨obP k8, oa2, n3, c3, hb2.reads, hr2.ob (by omega) (by omega), G h2 0, h0, (hpop_ok q2 n2 hne (by omega)).mono ?_⟩
      rintro _ H33 ⟨rfl, h3, q3, n3', l3, m3⟩
      have hleast : ∀ x ∈ h3, G h2 0 ≤ x := fun x hx => by
        obtain ⟨c, hc, rfl⟩ := mem_G.1 ((m3 x).2 (.inl hx))
        exact root_least n2 c hc
      have hG : G h2 0 ∈ h2 := mem_G.2 ⟨0, hpos, rfl⟩
      have hoG : ∀ y ∈ o, y ≤ G h2 0 := fun y hy => hle y hy _ hG
      obtain ⟨p1, p2⟩ := popI_asc hasc hoG
      have hrd := how.rd (E := iE) (sz := 1) (by omega) iLen
      have hok := hrd.len
      have lt3 : Less (match H33 k8 with | some (.cells c _ _) => (match c.toList with | [.slice _ n _] => n | _ => 0) | _ => 0) (match H24 k8 with | some (.cells c _ _) => (match c.toList with | [.slice _ n _] => n | _ => 0) | _ => 0) := ⟨by rw [meas q3, meas q2]; omega⟩
      -- what holds of the next ones
      have next : ∀ {F' H' : PHeap} {a' : Option Addr} {k' q' : Nat} {o' : List Int}, Sub H F' → Hq F' H' k8 h3 → OwnL F' 3 iE 1 a' k' q' o' → Off H a' → o' = popI o (G h2 0) → o'.length ≤ o.length + 1 →
          (∃ F h o, Sub H F ∧ Hq F H' k8 h ∧ Hn h h.length ∧ OwnL F 3 iE 1 a' k' q' o ∧ Off H a' ∧ Asc o ∧ (∀ y ∈ o, ∀ x ∈ h, y ≤ x) ∧ (∀ x, x ∈ restL l w ↔ x ∈ o ∨ x ∈ h) ∧ h.length + o.length ≤ 100000) := by
        intro F' H' a' k' q' o' g1 g2 g3 g4 g5 g6
        subst g5
        refine ⟨F', h3, _, g1, g2, n3', g3, g4, p1, fun y hy x hx => ?_, fun x => ?_, by omega⟩
        · rcases (p2 y).1 hy with hy | rfl
          · exact Int.le_trans (hoG y hy) (hleast x hx)
          · exact hleast x hx
        · rw [hmm, p2, m3]
          constructor
          · rintro (h | h | h)
            · exact .inl (.inl h)
            · exact .inr h
            · exact .inl (.inr h)
          · rintro ((h | h) | h)
            · exact .inl h
            · exact .inr (.inr h)
            · exact .inr (.inl h)
      have app : ∀ {k36 : Nat}, H33 k36 = none → o.getLast? ≠ some (G h2 0) → EvV Try.prog (Builtin.append_ #[29, 29] 29 #[.slice a k q, .slice (at0 k36) 1 1]) (H33.upd k36 (.cells #[vI (G h2 0)] 3 (0, 0))) fun v H38 => ∃ a' k' q', v = .slice a' k' q' ∧
          (∃ F h o, Sub H F ∧ Hq F H38 k8 h ∧ Hn h h.length ∧ OwnL F 3 iE 1 a' k' q' o ∧ Off H a' ∧ Asc o ∧ (∀ y ∈ o, ∀ x ∈ h, y ≤ x) ∧ (∀ x, x ∈ restL l w ↔ x ∈ o ∨ x ∈ h) ∧ h.length + o.length ≤ 100000) ∧
          Less (match H38 k8 with | some (.cells c _ _) => (match c.toList with | [.slice _ n _] => n | _ => 0) | _ => 0) (match H24 k8 with | some (.cells c _ _) => (match c.toList with | [.slice _ n _] => n | _ => 0) | _ => 0) := by
        intro k36 hk36 hlast
        refine append_one Rnd.tI (E := iE) (l := o) (x := G h2 0) hk36 iLen (Owns.mono how fun _ o _ hb => q3.sub.le _ _ hb) rfl (iOne _) (by simp [maxLen]; omega) (by omega) ?_
        intro a' q' H38 how' hf hfr _
        obtain ⟨F', f1, f2, f3, f4⟩ := q3.app how hf hfr how' sF hoff
        exact ⟨a', _, q', rfl, next f1 f2 f3 f4 (by unfold popI; rw [if_neg hlast]) (by simp), ⟨by rw [meas f2, meas q2]; omega⟩⟩
      refine ⟨_, rfl, fun e => ?_, fun e k42 hk42 => ?_⟩
      · have hk0 : k ≠ 0 := by simpa using e
        rw [show IntKind.i64.wrap ((k : Int) - 1) = ((k - 1 : Nat) : Int) by rw [wrap64 (by omega) (by omega)]; omega]
        have hrd3 := hrd.mono q3.sub
        obtain ⟨y, hy, hyr⟩ := hrd3.ex (i := ((k - 1 : Nat) : Int)) (by omega) (by omega)
        rw [Int.toNat_natCast] at hy
        have hlast : o.getLast? = some y := by rw [List.getLast?_eq_getElem?, hok]; exact hy
        refine ⟨hrd3.ob (by omega) (by omega), y, hyr, fun e => fun k36 hk36 => app hk36 (by rw [hlast]; intro e'; injection e' with e'; simp [e'] at e), fun e => ?_⟩
        have hyG : y = G h2 0 := by simpa using e
        exact ⟨next sF q3 how hoff (by unfold popI; rw [if_pos (by rw [hlast, hyG])]) (by omega), lt3⟩
      · have hk0 : k = 0 := by simpa using e
        have ho0 : o = [] := List.eq_nil_of_length_eq_zero (by omega)
        exact app hk42 (by rw [ho0]; simp)
    · have hemp : h2 = [] := by simpa using e
      subst hemp
      have heq : o = restL l w := asc_ext hasc (restL_spec l w).1 fun x => by rw [hmm]; simp
      subst heq
      exact ⟨a, k, q, rfl, Owns.mono how fun _ o _ hb => q2.sub.le _ _ hb, sF.trans q2.sub, hoff⟩
/-! ### The reference -/
theorem has_ok {H : PHeap} {oa : Option Addr} {n c : Nat} {l : List Int} {x : Int} (hl : RdL H iE 1 oa n l) (hn : n ≤ 1000000) :
    Triple Try.prog 53 #[.slice oa n c, vI x] H fun v H' => v = .bool (decide (x ∈ l)) ∧ H' = H := by
  have hll := hl.len
  refine refHas.vc oa n c x H _ ⟨fun t H' => match t with | [.int _ i] => 0 ≤ i ∧ i ≤ n ∧ H' = H ∧ x ∉ l.take i.toNat | _ => False, fun t _ => match t with | [.int _ i] => (n - i).toNat | _ => 0, ⟨by omega, by omega, rfl, by simp⟩, ?_⟩
  rintro i H1 ⟨i0, i1, rfl, hno⟩
  obtain ⟨i, rfl⟩ : ∃ j : Nat, i = j := ⟨i.toNat, by omega⟩
  rw [Int.toNat_natCast] at hno
  refine ⟨fun hi => ?_, fun hi => ?_⟩
  · have hi' : i < n := by simpa using hi
    obtain ⟨y, hy, hyr⟩ := hl.ex (i := (i : Int)) (by omega) (by omega)
    rw [Int.toNat_natCast] at hy
    refine ⟨hl.ob (by omega) (by omega), y, hyr, fun he => ⟨?_, rfl⟩, fun he => ?_⟩
    · have : y = x := by simpa using he
      have h1 : x ∈ l := by rw [← this]; exact List.mem_of_getElem? hy
      simp [h1]
    · rw [Rnd.wrapS (by omega) (by omega)]
      refine ⟨⟨by omega, by omega, rfl, ?_⟩, ⟨by simp only; omega⟩⟩
      have hne : y ≠ x := by simpa using he
      rw [show ((i : Int) + 1).toNat = i + 1 by omega, List.take_add_one, hy]
      simp only [List.mem_append, not_or]
      exact ⟨hno, by simpa using fun e => hne e.symm⟩
  · have : ¬ i < n := by simpa using hi
    rw [List.take_of_length_le (by omega)] at hno
    exact ⟨by simp [hno], rfl⟩
theorem put_tail {H : PHeap} {oa : Option Addr} {n c i : Nat} {l : List Int} {x : Int} {K : Option Addr → Nat → Nat → PHeap → Prop} (hl : RdL H iE 1 oa n l) (hi : i ≤ n) (hc : n ≤ c) (hn : n ≤ 100000)
    (hK : ∀ b m k H', RdL H' iE 1 b m (l.take i ++ x :: l.drop i) → m ≤ k → Sub H H' → K b m k H') :
    Ob (0 ≤ (i : Int) ∧ (i : Int) ≤ (n : Int) ∧ (n : Int) ≤ (c : Int)) ∧ ∀ (k14 : Nat), H k14 = none →
      EvV Try.prog (Builtin.append_ #[29, 29] 29 #[.slice (at0 k14) 1 1, .slice (slA oa i c 1) ((n : Int).toNat - (i : Int).toNat) (c - (i : Int).toNat)]) (H.upd k14 (.cells #[vI x] 3)) fun v15 H16 =>
        ∃ a17 k18 k19, v15 = Value.slice a17 k18 k19 ∧ ∀ (k20 : Nat), H16 k20 = none → Ob ((0 : Int) ≤ 0 ∧ 0 ≤ (i : Int) ∧ (i : Int) ≤ (c : Int)) ∧
          EvV Try.prog (Builtin.append_ #[29, 29] 29 #[.slice (at0 k20) 0 0, .slice (slA oa 0 c 1) ((i : Int).toNat - Int.toNat 0) (c - Int.toNat 0)]) (H16.upd k20 (.cells #[] 3)) fun v21 H22 =>
            ∃ a23 k24 k25, v21 = Value.slice a23 k24 k25 ∧
              EvV Try.prog (Builtin.append_ #[29, 29] 29 #[.slice a23 k24 k25, .slice a17 k18 k19]) H22 fun v26 H27 =>
                ∃ a28 k29 k30, v26 = Value.slice a28 k29 k30 ∧ K a28 k29 k30 H27 := by
  refine ⟨⟨by omega, by omega, by omega⟩, fun k1 hk1 => ?_⟩
  simp only [slA_zero, Int.toNat_natCast, Int.toNat_zero, Nat.sub_zero]
  have hs1 := Sub.upd (.cells #[vI x] 3 (0, 0)) hk1
  have ho1 := off_at0 hk1
  have own1 : OwnL (H.upd k1 (.cells #[vI x] 3 (0, 0))) 3 iE 1 (at0 k1) 1 1 [x] := ⟨rfl, .inr ⟨k1, #[vI x], rfl, upd_eq .., by omega, by simp [maxLen], rfl, rfl⟩⟩
  refine append_rd Rnd.tI (E := iE) (l := [x]) iLen own1 ((hl.drop hi hc).mono hs1) iOne (by simp [maxLen]; omega) (by omega) ?_
  intro b2 c2 H2 g2 hf2 hfr2
  refine ⟨b2, _, c2, rfl, fun k3 hk3 => ⟨⟨by omega, by omega, by omega⟩, ?_⟩⟩
  have hs2 := hf2.sub hs1 ho1
  have hs3 := Sub.upd (.cells #[] 3 (0, 0)) hk3
  refine append_rd Rnd.tI (E := iE) (l := []) iLen (Owns.empty H2 k3 _ 1) ((hl.take hi).mono (hs2.trans hs3)) iOne (by simp [maxLen]; omega) (by omega) ?_
  intro b4 c4 H4 g4 hf4 hfr4
  rw [Nat.zero_add] at g4 ⊢
  rw [List.nil_append] at g4
  have hs4 := hf4.sub hs3 (off_at0 hk3)
  have ho4 := hfr4.off hs3 (off_at0 hk3)
  refine ⟨b4, i, c4, rfl, append_rd Rnd.tI (E := iE) iLen g4 ((g2.rd (E := iE) (sz := 1) (by omega) iLen).mono hs4) iOne (by simp [maxLen]; omega) (by omega) ?_⟩
  intro b5 c5 H5 g5 hf5 hfr5
  exact ⟨b5, _, c5, rfl, hK _ _ _ _ (g5.rd (E := iE) (sz := 1) (by omega) iLen) g5.le (hs2.trans (hf5.sub hs4 ho4))⟩
theorem tw_len {l : List Int} {x : Int} {i : Nat} (h1 : ∀ j y, j < i → l[j]? = some y → y < x) (h2 : i ≤ l.length) (h3 : ∀ y, l[i]? = some y → ¬ y < x) : l.takeWhile (· < x) = l.take i ∧ l.dropWhile (· < x) = l.drop i := by
  induction l generalizing i with
  | nil => simp
  | cons y ys ih =>
    cases i with
    | zero =>
      have := h3 y rfl
      simp [List.takeWhile_cons, List.dropWhile_cons, this]
    | succ i =>
      have hy := h1 0 y (by omega) rfl
      obtain ⟨g1, g2⟩ := ih (i := i) (fun j z hj hz => h1 (j + 1) z (by omega) (by simpa using hz)) (by simpa using h2) (fun z hz => h3 z (by simpa using hz))
      simp [List.takeWhile_cons, List.dropWhile_cons, hy, g1, g2]
theorem restL_snoc (l w : List Int) (x : Int) : restL (l ++ [x]) w = if x ∈ w then restL l w else addI (restL l w) x := by
  unfold restL
  rw [List.filter_append, List.foldl_append]
  by_cases h : x ∈ w
  · simp [h]
  · simp [h]
theorem refRest_ok {H : PHeap} {oa ob : Option Addr} {n c m d : Nat} {l w : List Int} (hl : RdL H iE 1 oa n l) (hw : RdL H iE 1 ob m w) (hn : n ≤ 100000) (hm : m ≤ 100000) :
    Triple Try.prog 37 #[.slice oa n c, .slice ob m d] H fun v H' => ∃ b k q, v = .slice b k q ∧ RdL H' iE 1 b k (restL l w) ∧ k ≤ q ∧ Sub H H' := by
  have hll := hl.len
  refine refRest.vc oa n c ob m d H _ ⟨fun t H' => match t with | [.slice a k q, .int _ i] => 0 ≤ i ∧ i ≤ n ∧ k ≤ q ∧ Sub H H' ∧ RdL H' iE 1 a k (restL (l.take i.toNat) w) | _ => False, fun t _ => match t with | [_, .int _ i] => (n - i).toNat | _ => 0,
    ⟨by omega, by omega, Nat.le_refl _, Sub.refl _, RdL.nil _ _ _⟩, ?_⟩
  rintro a k q i H13 ⟨i0, i1, hkq, hs, hrd⟩
  obtain ⟨i, rfl⟩ : ∃ j : Nat, i = j := ⟨i.toNat, by omega⟩
  rw [Int.toNat_natCast] at hrd
  refine ⟨fun hi => ?_, fun hi => ?_⟩
  · have hi' : i < n := by simpa using hi
    have hl13 := hl.mono hs
    obtain ⟨x, hx, hxr⟩ := hl13.ex (i := (i : Int)) (by omega) (by omega)
    rw [Int.toNat_natCast] at hx
    have htk : l.take (i + 1) = l.take i ++ [x] := by rw [List.take_add_one, hx]; rfl
    have hrl := hrd.len
    have hlen := restL_len (l.take i) w
    rw [List.length_take] at hlen
    have next : restL (l.take ((i : Int) + 1).toNat) w = if x ∈ w then restL (l.take i) w else addI (restL (l.take i) w) x := by
      rw [show ((i : Int) + 1).toNat = i + 1 by omega, htk, restL_snoc]
    rw [show IntKind.i64.wrap ((i : Int) + 1) = (i : Int) + 1 from Rnd.wrapS (by omega) (by omega)]
    refine ⟨hl13.ob (by omega) (by omega), x, hxr, (has_ok (hw.mono hs) (by omega)).mono ?_⟩
    rintro _ H16 ⟨rfl, hH⟩
    obtain rfl := hH.symm
    refine ⟨_, rfl, fun e => ⟨hl13.ob (by omega) (by omega), x, hxr, (has_ok hrd (by omega)).mono ?_⟩, fun e => ?_⟩
    · have hxw : x ∉ w := by simpa using e
      rw [if_neg hxw] at next
      rintro _ H20 ⟨rfl, hH⟩
      obtain rfl := hH.symm
      refine ⟨_, rfl, fun e => ?_, fun e => ?_⟩
      · have hxo : x ∈ restL (l.take i) w := by simpa using e
        have : addI (restL (l.take i) w) x = restL (l.take i) w := by unfold addI; rw [if_pos hxo]
        exact ⟨⟨by omega, by omega, hkq, hs, by rw [next, this]; exact hrd⟩, ⟨by simp only; omega⟩⟩
      · have hxo : x ∉ restL (l.take i) w := by simpa using e
        refine ⟨fun t H' => match t with | [.int _ j] => 0 ≤ j ∧ j ≤ k ∧ H' = H13 ∧ ∀ z y, z < j.toNat → (restL (l.take i) w)[z]? = some y → y < x | _ => False, fun t _ => match t with | [.int _ j] => (k - j).toNat | _ => 0, ⟨by omega, by omega, rfl, fun z y hz => by simp at hz⟩, ?_⟩
        rintro j H25 ⟨j0, j1, hH, hlt⟩
        obtain rfl := hH.symm
        obtain ⟨j, rfl⟩ : ∃ z : Nat, j = z := ⟨j.toNat, by omega⟩
        rw [Int.toNat_natCast] at hlt
        -- it is put in here
        have fin : (∀ y, (restL (l.take i) w)[j]? = some y → ¬ y < x) → ∀ b m' k' H', RdL H' iE 1 b m' ((restL (l.take i) w).take j ++ x :: (restL (l.take i) w).drop j) → m' ≤ k' → Sub H13 H' →
            (0 ≤ (i : Int) + 1 ∧ (i : Int) + 1 ≤ n ∧ m' ≤ k' ∧ Sub H H' ∧ RdL H' iE 1 b m' (restL (l.take ((i : Int) + 1).toNat) w)) ∧ Less ((n - ((i : Int) + 1)).toNat) ((n - (i : Int)).toNat) := by
          intro hst b m' k' H' g1 g2 g3
          obtain ⟨t1, t2⟩ := tw_len hlt (by omega) hst
          have : addI (restL (l.take i) w) x = (restL (l.take i) w).take j ++ x :: (restL (l.take i) w).drop j := by unfold addI; rw [if_neg hxo, t1, t2]
          exact ⟨⟨by omega, by omega, g2, hs.trans g3, by rw [next, this]; exact g1⟩, ⟨by omega⟩⟩
        refine ⟨H13, Sub.refl _, fun hj => ?_, fun hj => ⟨H13, Sub.refl _, hl13.ob (by omega) (by omega), x, hxr, ?_⟩⟩
        · have hj' : j < k := by simpa using hj
          obtain ⟨y, hy, hyr⟩ := hrd.ex (i := (j : Int)) (by omega) (by omega)
          rw [Int.toNat_natCast] at hy
          refine ⟨hrd.ob (by omega) (by omega), y, hyr, hl13.ob (by omega) (by omega), x, hxr, fun e => ?_, fun e => ⟨H13, Sub.refl _, hl13.ob (by omega) (by omega), x, hxr, ?_⟩⟩
          · have hyx : y < x := by simpa using e
            rw [Rnd.wrapS (by omega) (by omega)]
            refine ⟨⟨by omega, by omega, rfl, fun z u hz hu => ?_⟩, ⟨by simp only; omega⟩⟩
            by_cases ez : z = j
            · subst ez; rw [hy] at hu; cases hu; exact hyx
            · exact hlt z u (by omega) hu
          · have hyx : ¬ y < x := by simpa using e
            exact put_tail hrd (by omega) hkq (by omega) (fin fun z hz => by rw [hy] at hz; cases hz; exact hyx)
        · have hj' : ¬ j < k := by simpa using hj
          exact put_tail hrd (by omega) hkq (by omega) (fin fun z hz => by have := (List.getElem?_eq_some_iff.1 hz).1; omega)
    · have hxw : x ∈ w := by simpa using e
      rw [if_pos hxw] at next
      exact ⟨⟨by omega, by omega, hkq, hs, by rw [next]; exact hrd⟩, ⟨by simp only; omega⟩⟩
  · have hi' : ¬ i < n := by simpa using hi
    rw [List.take_of_length_le (by omega)] at hrd
    exact ⟨a, k, q, rfl, hrd, hkq, hs⟩
end Go.Hp
