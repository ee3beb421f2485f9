/- The contracts of a heap of numbers: its methods, and what goes up and down in it. -/
import Derived.Test.YtllbdocjgdnofaaVxZ
import Derived.Test.YtllbdocjgdnofaaRndA
import Derived.Test.YtllbdocjgdnofaaVcRest
import Derived.Test.YtllbdocjgdnofaaHpP
namespace Go.Hp
open Go.Vx Go.Vc Go.Proofs

abbrev iE : Int → List Value := intE .i64
theorem iLen (n : Int) : (iE n).length = 1 := rfl
theorem iOne (n : Int) : ∀ u ∈ iE n, u.oneCell' = true := fun u hu => by simp [intE] at hu; subst hu; rfl
theorem tN : ElemT Try.prog 72 3 1 8 := .of (by kernel_rfl)
/-- The block k holds numbers in an array of their own, beside F. -/
structure Hq (F H : PHeap) (k : Nat) (l : List Int) : Prop where
  sub : Sub F H
  off : F k = none
  row : ∃ oa n c, Bx H k 72 [.slice oa n c] ∧ OwnL H 3 iE 1 oa n c l ∧ Off F oa ∧ ∀ a, oa = some a → a.block ≠ k
abbrev hv (k : Nat) : Value := .iface 71 (.pointer (at0 k))
abbrev vI (n : Int) : Value := .int .i64 n
theorem uN : Try.prog.underlying 71 = some (.pointer 72) := by kernel_rfl
theorem len_ok {F H : PHeap} {k : Nat} {l : List Int} {Q : Value → PHeap → Prop} (h : Hq F H k l) (hQ : Q (vI l.length) H) : CallI Try.prog (hv k) "Len" #[] H Q := by
  obtain ⟨oa, n, c, hb, ho, _, _⟩ := h.row
  have hn := (ho.rd (E := iE) (sz := 1) (by omega) iLen).len
  refine CallI.load (f := 95) (by kernel_rfl) uN (by kernel_rfl) (by kernel_rfl) hb.reads ?_
  exact nLen.vc oa n c H Q (by rw [← hn]; exact hQ)
theorem less_ok {F H : PHeap} {k : Nat} {l : List Int} {i j : Nat} {Q : Value → PHeap → Prop} (h : Hq F H k l) (hi : i < l.length) (hj : j < l.length) (hQ : Q (.bool (decide (G l i < G l j))) H) :
    CallI Try.prog (hv k) "Less" #[vI i, vI j] H Q := by
  obtain ⟨oa, n, c, hb, ho, _, _⟩ := h.row
  have hr := ho.rd (E := iE) (sz := 1) (by omega) iLen
  have hn := hr.len
  refine CallI.load (f := 96) (by kernel_rfl) uN (by kernel_rfl) (by kernel_rfl) hb.reads ?_
  have h1 : Reads H (elemA oa (i : Int) 1) [vI (G l i)] := hr.at (by omega) (by rw [Int.toNat_natCast]; exact G_lt hi)
  have h2 : Reads H (elemA oa (j : Int) 1) [vI (G l j)] := hr.at (by omega) (by rw [Int.toNat_natCast]; exact G_lt hj)
  exact nLess.vc oa n c i j H Q ⟨H, Sub.refl _, hr.ob (by omega) (by omega), _, h1, hr.ob (by omega) (by omega), _, h2, hQ⟩
theorem swap_ok {F H : PHeap} {k : Nat} {l : List Int} {i j : Nat} {Q : Value → PHeap → Prop} (h : Hq F H k l) (hi : i < l.length) (hj : j < l.length) (hQ : ∀ H', Hq F H' k (swapL l i j) → Q (.tuple #[]) H') :
    CallI Try.prog (hv k) "Swap" #[vI i, vI j] H Q := by
  obtain ⟨oa, n, c, hb, ho, hof, hne⟩ := h.row
  have hr := ho.rd (E := iE) (sz := 1) (by omega) iLen
  have hn := hr.len
  refine CallI.load (f := 99) (by kernel_rfl) uN (by kernel_rfl) (by kernel_rfl) hb.reads ?_
  have h1 : Reads H (elemA oa (i : Int) 1) [vI (G l i)] := hr.at (by omega) (by rw [Int.toNat_natCast]; exact G_lt hi)
  have h2 : Reads H (elemA oa (j : Int) 1) [vI (G l j)] := hr.at (by omega) (by rw [Int.toNat_natCast]; exact G_lt hj)
  obtain ⟨H1, w1, o1, f1⟩ := Owns.set iLen ho (by omega) (i := (i : Int)) (by omega) (by omega) (G l j)
  obtain ⟨H2, w2, o2, f2⟩ := Owns.set iLen o1 (by omega) (i := (j : Int)) (by omega) (by omega) (G l i)
  rw [Int.toNat_natCast] at o2
  rw [Int.toNat_natCast] at o2
  refine nSwap.vc oa n c i j H Q ⟨H, Sub.refl _, hr.ob (by omega) (by omega), _, h2, hr.ob (by omega) (by omega), _, h1, hr.ob (by omega) (by omega), H1, w1, hr.ob (by omega) (by omega), H2, w2, hQ H2 ⟨f2.sub (f1.sub h.sub hof) hof, h.off, oa, n, c, f2.bx (f1.bx hb hne) hne, o2, hof, hne⟩⟩
theorem push_ok {F H : PHeap} {k : Nat} {l : List Int} {x : Int} {Q : Value → PHeap → Prop} (h : Hq F H k l) (hl : l.length ≤ 100000) (hQ : ∀ H', Hq F H' k (l ++ [x]) → Q (.tuple #[]) H') :
    CallI Try.prog (hv k) "Push" #[.iface 3 (vI x)] H Q := by
  obtain ⟨oa, n, c, hb, ho, hof, hne⟩ := h.row
  have hr := ho.rd (E := iE) (sz := 1) (by omega) iLen
  have hn := hr.len
  refine CallI.ptr (f := 98) (by kernel_rfl) uN (by kernel_rfl) ?_
  refine nPush.vc (at0 k) _ H Q (assert_same (d := .int .i64) (by kernel_rfl) (fun _ e => by cases e) ⟨x, true, rfl, fun _ => ⟨obP k, oa, n, c, hb.reads, fun k10 hk10 => ?_⟩, fun e => by cases e⟩)
  refine append_one tN (E := iE) (l := l) (x := x) hk10 iLen ho rfl (iOne x) (by simp [maxLen]; omega) (by omega) ?_
  intro oa' c' H' how hf hfr _
  have hb' := hf.bx hb hne
  have hne' := hfr.ne hb hne
  have hof' := hfr.off h.sub hof
  refine ⟨oa', n + 1, c', rfl, obP k, _, hb'.writes [.slice oa' (n + 1) c'] rfl, hQ _ ⟨(hf.sub h.sub hof).wr h.off, h.off, oa', n + 1, c', Bx.new H' k _ _, ?_, hof', hne'⟩⟩
  exact Owns.mono how fun a o ha hb => by rw [Vx.upd_ne _ _ (hne' a ha)]; exact hb
theorem pop_ok {F H : PHeap} {k : Nat} {l : List Int} {x : Int} {Q : Value → PHeap → Prop} (h : Hq F H k (l ++ [x])) (hl : l.length ≤ 100000) (hQ : ∀ H', Hq F H' k l → Q (.iface 3 (vI x)) H') :
    CallI Try.prog (hv k) "Pop" #[] H Q := by
  obtain ⟨oa, n, c, hb, ho, hof, hne⟩ := h.row
  have hr := ho.rd (E := iE) (sz := 1) (by omega) iLen
  have hn := hr.len
  have hnc := ho.le
  rw [List.length_append, List.length_singleton] at hn
  have ew : IntKind.i64.wrap ((n : Int) - 1) = (l.length : Int) := by rw [wrap64 (by omega) (by omega)]; omega
  have h1 : Reads H (elemA oa (l.length : Int) 1) [vI x] := hr.at (by omega) (by rw [Int.toNat_natCast]; simp)
  refine CallI.ptr (f := 97) (by kernel_rfl) uN (by kernel_rfl) ?_
  refine nPop.vc (at0 k) H Q ⟨obP k, oa, n, c, hb.reads, obP k, oa, n, c, hb.reads, ?_⟩
  rw [ew]
  refine ⟨hr.ob (by omega) (by omega), x, h1, obP k, oa, n, c, hb.reads, ⟨by omega, by omega, by omega⟩, obP k, _, hb.writes [.slice (slA oa 0 c 1) ((l.length : Int).toNat - Int.toNat 0) (c - Int.toNat 0)] rfl, hQ _ ⟨h.sub.wr h.off, h.off, _, _, _, Bx.new H k _ _, ?_, ?_, ?_⟩⟩
  · rw [slA_zero]
    have h2 := ho.cut (m := l.length) (by omega)
    rw [List.flatMap_append, List.take_left' (by rw [length_flatMap iLen])] at h2
    simp only [Int.toNat_natCast, Int.toNat_zero, Nat.sub_zero]
    exact Owns.mono h2 fun a o ha hb => by rw [Vx.upd_ne _ _ (hne a ha)]; exact hb
  · rw [slA_zero]; exact hof
  · rw [slA_zero]; exact hne
/-! ### Up and down -/
theorem up_ok {F H : PHeap} {k j : Nat} {l : List Int} (h : Hq F H k l) (hj : j < l.length) (hl : l.length ≤ 100001) (hu : Up l j) :
    Triple Try.prog 56 #[hv k, vI j] H fun v H' => v = .tuple #[] ∧ ∃ l', Hq F H' k l' ∧ Hn l' l'.length ∧ l'.length = l.length ∧ ∀ x, x ∈ l' ↔ x ∈ l := by
  refine hUp.vc (hv k) j H _ ⟨fun t H' => match t with | [.int _ j] => 0 ≤ j ∧ ∃ l', Hq F H' k l' ∧ j.toNat < l'.length ∧ Up l' j.toNat ∧ l'.length = l.length ∧ ∀ x, x ∈ l' ↔ x ∈ l | _ => False, fun t _ => match t with | [.int _ j] => j.toNat | _ => 0, ⟨by omega, l, h, by omega, by rw [Int.toNat_natCast]; exact hu, rfl, fun _ => Iff.rfl⟩, ?_⟩
  rintro j' H1 ⟨j0, l', h', hj', hu', hl', hm⟩
  obtain ⟨j', rfl⟩ : ∃ q : Nat, j' = q := ⟨j'.toNat, by omega⟩
  rw [Int.toNat_natCast] at hj' hu'
  rcases Nat.eq_zero_or_pos j' with rfl | hp
  · have e : IntKind.i64.wrap ((IntKind.i64.wrap (((0 : Nat) : Int) - 1)).tdiv 2) = 0 := by decide
    rw [e]
    refine ⟨⟨by omega⟩, fun e => by simp at e, fun _ => ⟨rfl, l', h', up_end hu' (.inl rfl), hl', hm⟩⟩
  · have e : IntKind.i64.wrap ((IntKind.i64.wrap ((j' : Int) - 1)).tdiv 2) = (((j' - 1) / 2 : Nat) : Int) := by
      rw [wrap64 (n := (j' : Int) - 1) (by omega) (by omega), Int.tdiv_eq_ediv_of_nonneg (by omega), wrap64 (by omega) (by omega)]
      omega
    rw [e]
    refine ⟨⟨by omega⟩, fun _ => ?_, fun e => ?_⟩
    · refine less_ok h' hj' (by omega) ⟨_, rfl, fun e => ⟨rfl, l', h', up_end hu' (.inr ?_), hl', hm⟩, fun e => ?_⟩
      · have : ¬ G l' j' < G l' ((j' - 1) / 2) := by simpa using e
        omega
      · have hlt : G l' j' < G l' ((j' - 1) / 2) := by simpa using e
        refine swap_ok h' (by omega) hj' fun H2 h2 => ⟨rfl, ⟨by omega, _, h2, ?_, ?_, ?_, fun x => ?_⟩, ⟨?_⟩⟩
        · rw [swap_len]; omega
        · rw [Int.toNat_natCast]; exact up_step hu' hj' hp hlt
        · rw [swap_len, hl']
        · rw [swap_mem (by omega) hj', hm]
        · simp only [Int.toNat_natCast]; omega
    · exfalso
      have : (((j' - 1) / 2 : Nat) : Int) = j' := by simpa using e
      omega
theorem down_ok {F H : PHeap} {k n : Nat} {l : List Int} (h : Hq F H k l) (hl : l.length = n + 1) (hn : n ≤ 100000) (hd : Dn l n 0) :
    Triple Try.prog 57 #[hv k, vI 0, vI n] H fun v H' => (∃ b, v = .bool b) ∧ ∃ l', Hq F H' k l' ∧ Hn l' n ∧ l'.length = n + 1 ∧ G l' n = G l n ∧ ∀ x, x ∈ l' ↔ x ∈ l := by
  refine hDown.vc (hv k) 0 n H _ ⟨fun t H' => match t with | [.int _ i] => 0 ≤ i ∧ i ≤ n ∧ ∃ l', Hq F H' k l' ∧ Dn l' n i.toNat ∧ l'.length = n + 1 ∧ G l' n = G l n ∧ ∀ x, x ∈ l' ↔ x ∈ l | _ => False, fun t _ => match t with | [.int _ i] => (n - i).toNat | _ => 0, ⟨by omega, by omega, l, h, hd, hl, rfl, fun _ => Iff.rfl⟩, ?_⟩
  rintro i H1 ⟨i0, i1, l', h', hd', hl', hg, hm⟩
  obtain ⟨i, rfl⟩ : ∃ q : Nat, i = q := ⟨i.toNat, by omega⟩
  rw [Int.toNat_natCast] at hd'
  have e1 : IntKind.i64.wrap (2 * (i : Int)) = ((2 * i : Nat) : Int) := by rw [wrap64 (by omega) (by omega)]; omega
  have e2 : IntKind.i64.wrap (((2 * i : Nat) : Int) + 1) = ((2 * i + 1 : Nat) : Int) := by rw [wrap64 (by omega) (by omega)]; omega
  have e3 : IntKind.i64.wrap (((2 * i + 1 : Nat) : Int) + 1) = ((2 * i + 2 : Nat) : Int) := by rw [wrap64 (by omega) (by omega)]; omega
  rw [e1, e2, e3]
  -- it ends here
  have fin : ∀ {H2 : PHeap} {b : Bool}, Hq F H2 k l' → (∀ c, 0 < c → c < n → (c - 1) / 2 = i → G l' i ≤ G l' c) → (∃ b', Value.bool b = .bool b') ∧ ∃ l', Hq F H2 k l' ∧ Hn l' n ∧ l'.length = n + 1 ∧ G l' n = G l n ∧ ∀ x, x ∈ l' ↔ x ∈ l :=
    fun {H2 b} hq hc => ⟨⟨b, rfl⟩, l', hq, dn_end hd' hc, hl', hg, hm⟩
  -- it goes on
  have go : ∀ {H2 : PHeap} {j : Nat} {R : PHeap → Prop}, Hq F H2 k l' → j < n → (j = 2 * i + 1 ∨ j = 2 * i + 2) → G l' j < G l' i → (∀ c, 0 < c → c < n → (c - 1) / 2 = i → G l' j ≤ G l' c) →
      (∀ H3, (0 ≤ (j : Int) ∧ (j : Int) ≤ n ∧ ∃ l', Hq F H3 k l' ∧ Dn l' n (j : Int).toNat ∧ l'.length = n + 1 ∧ G l' n = G l n ∧ ∀ x, x ∈ l' ↔ x ∈ l) ∧ Less ((n - (j : Int)).toNat) ((n - (i : Int)).toNat) → R H3) →
      CallI Try.prog (hv k) "Swap" #[vI i, vI j] H2 fun v H3 => v = .tuple #[] ∧ R H3 := by
    intro H2 j R hq hj hji hlt hmin hR
    refine swap_ok hq (by omega) (by omega) fun H3 h3 => ⟨rfl, hR H3 ⟨⟨by omega, by omega, _, h3, ?_, ?_, ?_, fun x => ?_⟩, ⟨by omega⟩⟩⟩
    · rw [Int.toNat_natCast]; exact dn_step hd' (by omega) hj hji hlt hmin
    · rw [swap_len]; exact hl'
    · rw [swap_get (by omega) (by omega), if_neg (by omega), if_neg (by omega)]; exact hg
    · rw [swap_mem (by omega) (by omega), hm]
  refine ⟨fun e => fin h' fun c c0 c1 c2 => ?_, fun e => ?_⟩
  · exfalso
    have : (n : Int) ≤ 2 * (i : Int) + 1 ∨ 2 * (i : Int) + 1 < 0 := by simpa using e
    omega
  have hlt1 : 2 * i + 1 < n := by
    by_cases hc : ((2 * i + 1 : Nat) : Int) ≥ n
    · simp [hc] at e; omega
    · omega
  refine ⟨fun e2 => ?_, fun e2 => ?_⟩
  · have hlt2 : 2 * i + 2 < n := by
      have : ((2 * i + 2 : Nat) : Int) < n := by simpa using e2
      omega
    refine less_ok h' (by omega) (by omega) ⟨_, rfl, ?_⟩
    -- the lesser child
    obtain ⟨j, hj, hjn, hji, hmin⟩ : ∃ j : Nat, (bif decide (G l' (2 * i + 2) < G l' (2 * i + 1)) then ((2 * i + 2 : Nat) : Int) else ((2 * i + 1 : Nat) : Int)) = (j : Int) ∧ j < n ∧ (j = 2 * i + 1 ∨ j = 2 * i + 2) ∧ ∀ c, 0 < c → c < n → (c - 1) / 2 = i → G l' j ≤ G l' c := by
      by_cases hc : G l' (2 * i + 2) < G l' (2 * i + 1)
      · refine ⟨2 * i + 2, by rw [decide_eq_true hc]; rfl, hlt2, .inr rfl, fun c c0 c1 c2 => ?_⟩
        have : c = 2 * i + 1 ∨ c = 2 * i + 2 := by omega
        rcases this with rfl | rfl <;> omega
      · refine ⟨2 * i + 1, by rw [decide_eq_false hc]; rfl, hlt1, .inl rfl, fun c c0 c1 c2 => ?_⟩
        have : c = 2 * i + 1 ∨ c = 2 * i + 2 := by omega
        rcases this with rfl | rfl <;> omega
    rw [hj]
    refine less_ok h' (by omega) (by omega) ⟨_, rfl, fun e => fin h' fun c c0 c1 c2 => ?_, fun e => go h' hjn hji (by simpa using e) hmin fun H3 h3 => h3⟩
    have : ¬ G l' j < G l' i := by simpa using e
    have := hmin c c0 c1 c2
    omega
  · have hge : ¬ 2 * i + 2 < n := by
      have : ¬ ((2 * i + 2 : Nat) : Int) < n := by simpa using e2
      omega
    have hmin : ∀ c, 0 < c → c < n → (c - 1) / 2 = i → G l' (2 * i + 1) ≤ G l' c := fun c c0 c1 c2 => by
      have : c = 2 * i + 1 := by omega
      rw [this]; exact Int.le_refl _
    refine less_ok h' (by omega) (by omega) ⟨_, rfl, fun e => fin h' fun c c0 c1 c2 => ?_, fun e => go h' hlt1 (.inl rfl) (by simpa using e) hmin fun H3 h3 => h3⟩
    have : ¬ G l' (2 * i + 1) < G l' i := by simpa using e
    have := hmin c c0 c1 c2
    omega
/-! ### Push and Pop -/
theorem hpush_ok {F H : PHeap} {k : Nat} {l : List Int} {x : Int} (h : Hq F H k l) (hn : Hn l l.length) (hl : l.length ≤ 100000) :
    Triple Try.prog 44 #[hv k, .iface 3 (vI x)] H fun v H' => v = .tuple #[] ∧ ∃ l', Hq F H' k l' ∧ Hn l' l'.length ∧ l'.length = l.length + 1 ∧ ∀ y, y ∈ l' ↔ y ∈ l ∨ y = x := by
  refine hPush.vc (hv k) _ H _ (push_ok h hl fun H1 h1 => ⟨rfl, len_ok h1 ⟨_, rfl, ?_⟩⟩)
  have e : IntKind.i64.wrap (((l ++ [x]).length : Int) - 1) = (l.length : Int) := by
    rw [List.length_append, List.length_singleton, wrap64 (by omega) (by omega)]; omega
  rw [e]
  refine (up_ok h1 (by simp) (by simp; omega) (up_push hn)).mono ?_
  rintro _ H2 ⟨rfl, l', h2, h3, h4, h5⟩
  exact ⟨rfl, rfl, l', h2, h3, by simpa using h4, fun y => by rw [h5]; simp⟩
theorem hpop_ok {F H : PHeap} {k : Nat} {l : List Int} (h : Hq F H k l) (hn : Hn l l.length) (h0 : l ≠ []) (hl : l.length ≤ 100000) :
    Triple Try.prog 46 #[hv k] H fun v H' => v = .iface 3 (vI (G l 0)) ∧ ∃ l', Hq F H' k l' ∧ Hn l' l'.length ∧ l'.length + 1 = l.length ∧ ∀ y, y ∈ l ↔ y ∈ l' ∨ y = G l 0 := by
  obtain ⟨n, hln⟩ : ∃ n, l.length = n + 1 := ⟨l.length - 1, by
    have : l.length ≠ 0 := fun e => h0 (List.eq_nil_of_length_eq_zero e)
    omega⟩
  refine hPop.vc (hv k) H _ (len_ok h ⟨_, rfl, ?_⟩)
  have e : IntKind.i64.wrap ((l.length : Int) - 1) = (n : Int) := by rw [hln, wrap64 (by omega) (by omega)]; omega
  rw [e]
  refine swap_ok (i := 0) (j := n) h (by omega) (by omega) fun H1 h1 => ⟨rfl, ?_⟩
  refine (down_ok h1 (by rw [swap_len]; exact hln) (by omega) (dn_pop hln (by rw [← hln]; exact hn))).mono ?_
  rintro _ H2 ⟨⟨b, rfl⟩, l', h2, h3, h4, h5, h6⟩
  have e5 : G l' n = G l 0 := by rw [h5, swap_get (by omega) (by omega), if_pos rfl]
  have hsplit : l' = l'.take n ++ [G l 0] := by
    conv => lhs; rw [← List.take_append_drop n l']
    congr 1
    have h7 : l'.drop n = [G l' n] := by
      rw [List.drop_eq_getElem_cons (by omega), List.drop_eq_nil_of_le (by omega)]
      congr 1
      have := G_lt (l := l') (i := n) (by omega)
      rw [List.getElem?_eq_getElem (by omega)] at this
      exact Option.some.inj this
    rw [h7, e5]
  rw [hsplit] at h2
  refine ⟨b, rfl, pop_ok h2 (by rw [List.length_take]; omega) fun H3 h7 => ⟨_, rfl, rfl, l'.take n, h7, ?_, by rw [List.length_take]; omega, fun y => ?_⟩⟩
  · have hlt : (l'.take n).length = n := by rw [List.length_take]; omega
    intro c c0 c1
    rw [hlt] at c1
    have gt : ∀ c, c < n → G (l'.take n) c = G l' c := fun c hc => by simp [G, List.getD_eq_getElem?_getD, hc]
    rw [gt _ (by omega), gt _ c1]
    exact h3 c c0 c1
  · rw [← swap_mem (i := 0) (j := n) (by omega) (by omega), ← h6]
    conv => lhs; rw [hsplit]
    simp
end Go.Hp
