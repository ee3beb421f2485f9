/- The contracts of slices.Insert, Delete and Clone, at the index's entries. -/
import Derived.Test.YtcdgeeakfoofpaaIdxP
import Derived.Test.YtcdgeeakfoofpaaVcIndex
namespace Go.Idx
open Go.Vx Go.Vc Go.Proofs

abbrev eE : En → List Value := pairE strE (pairE (intE .i64) (pairE (intE .i64) (intE .i64)))
theorem eLen (x : En) : (eE x).length = 4 := rfl
theorem eOne (x : En) : ∀ u ∈ eE x, u.oneCell' = true := fun u hu => by simp [eE, pairE, strE, intE] at hu; rcases hu with rfl | rfl | rfl | rfl <;> rfl
theorem tEn : ElemT Try.prog 43 35 4 40 := .of (by kernel_rfl)
theorem zEn : ∀ i z, Try.prog.info? 35 = some i → i.zero = some z → z.cells.toList = eE (⟨ByteArray.empty, 0, 0, 0⟩ : En) := fun i z hi hz => by
  have h0 : (Try.prog.info? 35).bind (·.zero) = some (.agg #[.string ByteArray.empty, .int .i64 0, .int .i64 0, .int .i64 0]) := by kernel_rfl
  rw [hi] at h0
  simp [hz] at h0
  subst h0
  rfl
theorem flatOne (l : List En) : ∀ u ∈ l.flatMap eE, u.oneCell' = true := fun u hu => by
  obtain ⟨x, _, hx⟩ := List.mem_flatMap.1 hu
  exact eOne x u hx
/-- A slice of entries that is the call's own. -/
abbrev OwnE (H : PHeap) (oa : Option Addr) (n c : Nat) (l : List En) : Prop := OwnL H 35 eE 4 oa n c l

theorem clone_ok {H : PHeap} {oa : Option Addr} {n c : Nat} {l : List En} (hl : RdL H eE 4 oa n l) (hn : n ≤ 1000) :
    Triple Try.prog 24 #[.slice oa n c] H fun v H' => ∃ b k, v = .slice b n k ∧ OwnE H' b n k l ∧ Sub H H' ∧ Off H b := by
  refine cloneI.vc oa n c H _ ⟨fun h => ?_, fun h k4 hk4 => ?_⟩
  · have ho : oa = none := by simpa using h
    have hn0 := hl.pos ho
    have hl0 : l = [] := List.eq_nil_of_length_eq_zero (by rw [hl.len, hn0])
    subst hl0 hn0
    exact ⟨none, 0, rfl, Owns.nil _ _ 4, Sub.refl H, Off.none _⟩
  · have hsk := Sub.upd (.cells #[] 35 (0, 0)) hk4
    have hoffk : Off H (at0 k4) := fun a ha => by cases ha; exact hk4
    refine append_rd tEn (E := eE) (sz := 4) (l := []) (l2 := l) eLen ⟨by simp, .inr ⟨k4, #[], rfl, upd_eq .., Nat.le_refl _, Nat.zero_le _, by simp, by simp⟩⟩ (hl.mono hsk) eOne (by simp [maxLen]; omega) (by omega) ?_
    intro b k H2 how hf hfr
    rw [List.nil_append] at how
    rw [Nat.zero_add] at how ⊢
    exact ⟨b, n, k, rfl, b, k, rfl, how, hf.sub hsk hoffk, hfr.off hsk hoffk⟩
theorem wrapN {n : Nat} (h : n ≤ 1000000) : IntKind.i64.wrap ((n : Nat) : Int) = n := wrap64 (by omega) (by omega)
theorem put_two {α : Type} {xs p y z : List α} {a b : Nat} (hp : xs.take a = p) (ha : a ≤ xs.length) (hy : a + y.length = b) (hb : b + z.length = xs.length) :
    (xs.take a ++ y ++ xs.drop (a + y.length)).take b ++ z ++ (xs.take a ++ y ++ xs.drop (a + y.length)).drop (b + z.length) = p ++ y ++ z := by
  have h1 : (xs.take a ++ y).length = b := by rw [List.length_append, List.length_take]; omega
  have h2 : (xs.take a ++ y ++ xs.drop (a + y.length)).length = b + z.length := by rw [List.length_append, h1, List.length_drop]; omega
  rw [List.take_left' h1, List.drop_of_length_le (by omega), hp, List.append_nil]
theorem put_under {α : Type} {xs y z : List α} {a b : Nat} (ha : a + z.length = b) (hb : b + y.length = xs.length) :
    (xs.take b ++ y ++ xs.drop (b + y.length)).take a ++ z ++ (xs.take b ++ y ++ xs.drop (b + y.length)).drop (a + z.length) = xs.take a ++ z ++ y := by
  have h1 : (xs.take b).length = b := by rw [List.length_take]; omega
  rw [List.drop_of_length_le (i := b + y.length) (by omega), List.append_nil, ha, List.drop_left' h1, List.take_append_of_le_length (by omega), List.take_take, Nat.min_eq_left (by omega)]
theorem insert_ok {H : PHeap} {oa : Option Addr} {n c i kb : Nat} {l : List En} {x : En} (how : OwnE H oa n c l) (hb : Bx H kb 35 (eE x)) (hne : ∀ a, oa = some a → a.block ≠ kb) (hi : i ≤ n) (hn : n ≤ 1000) :
    Triple Try.prog 21 #[.slice oa n c, .int .i64 i, .slice (at0 kb) 1 1] H fun v H' => ∃ b k, v = .slice b (n + 1) k ∧ OwnE H' b (n + 1) k (l.take i ++ x :: l.drop i) ∧ Vx.Frame oa H H' ∧ Fresh oa b H := by
  have hrd := how.rd (E := eE) (sz := 4) (by omega) eLen
  have hll := hrd.len
  have hcap : n ≤ c := by
    rcases how.row with ⟨_, h1, h2⟩ | ⟨_, _, _, _, h1, _⟩ <;> omega
  have e1 : IntKind.i64.wrap ((n : Int) + ((1 : Nat) : Int)) = ((n + 1 : Nat) : Int) := by rw [show (n : Int) + ((1 : Nat) : Int) = ((n + 1 : Nat) : Int) by omega]; exact wrapN (by omega)
  have e2 : IntKind.i64.wrap (((n + 1 : Nat) : Int) - (i : Int)) = ((n + 1 - i : Nat) : Int) := by rw [show ((n + 1 : Nat) : Int) - (i : Int) = ((n + 1 - i : Nat) : Int) by omega]; exact wrapN (by omega)
  have e3 : IntKind.i64.wrap ((i : Int) + ((1 : Nat) : Int)) = ((i + 1 : Nat) : Int) := by rw [show (i : Int) + ((1 : Nat) : Int) = ((i + 1 : Nat) : Int) by omega]; exact wrapN (by omega)
  have hx : ∀ (G : PHeap), Bx G kb 35 (eE x) → ∀ a, at0 kb = some a → ∀ (j : Nat) v, (eE x)[j]? = some v → hcell G (a.add j) = some v := by
    intro G hG a ha j v hv
    obtain ⟨a', ha', hg⟩ := hG.reads.out
    cases ha; cases ha'
    exact hg j v hv
  refine insertI.vc oa n c i (at0 kb) 1 1 H _ ⟨⟨by omega, by omega, by omega⟩, fun h => by simp at h, fun _ => ⟨fun h => ?_, fun h => ⟨fun h2 => ?_, fun h2 => ?_⟩⟩⟩
  · -- at the end
    have hin : i = n := by
      have h' : (i : Int) = n := by simpa using h
      omega
    subst hin
    refine append_own tEn how (news := eE x) (m := 1) rfl (hx H hb _ rfl) (eOne x) (by simp [maxLen]; omega) (by omega) ?_
    intro b k H' g1 g2 g3 _
    refine ⟨b, _, k, rfl, b, k, rfl, ?_, g2, g3⟩
    rw [List.take_of_length_le (by omega), List.drop_of_length_le (by omega)]
    show Owns H' _ _ b _ k ((l ++ [x]).flatMap eE)
    rw [List.flatMap_append, List.flatMap_singleton]
    exact g1
  · -- a new row
    have hin : i < n := by
      have : (i : Int) ≠ n := by simpa using h
      omega
    rw [e1] at h2
    have hc : c < n + 1 := by simp at h2; omega
    rw [e1, e2, e3]
    simp only [slA_zero, Int.toNat_natCast, Int.toNat_zero, Nat.sub_zero]
    refine ⟨⟨by omega, by omega, by omega⟩, ?_⟩
    have hrdi : RdL H eE 4 oa i (l.take i) := ⟨by rw [List.length_take]; omega, fun e => by have := hrd.pos e; omega, fun j y hy => hrd.get j y (by
      rw [List.getElem?_take] at hy
      split at hy
      · exact hy
      · cases hy)⟩
    refine append_zeros (m := n + 1 - i) (Z := (⟨ByteArray.empty, 0, 0, 0⟩ : En)) tEn (kn := .i64) (by kernel_rfl) eLen zEn hrdi (by omega) (by omega) (by simp only [maxLen]; omega) (by omega) ?_
    intro b k H2 hbn g1 g2
    rw [show i + (n + 1 - i) = n + 1 by omega] at g1 ⊢
    have hk : n + 1 ≤ k := by
      rcases g1.row with ⟨e, _⟩ | ⟨_, _, _, _, h, _⟩
      · cases e
      · exact h
    have hs2 : Sub H H2 := g2.sub (Sub.refl H) (Off.none _)
    have hbk : ∀ a, (at0 b) = some a → H a.block = none := fun a ha => by cases ha; exact hbn
    refine ⟨at0 b, n + 1, k, rfl, ⟨by omega, by omega, by omega⟩, ?_⟩
    rw [slA_pos (show (i : Int) ≠ k by omega)]
    obtain ⟨H3, hw3, g3, hf3⟩ := g1.put (p := i) (ys := eE x) (by rw [eLen]; omega) (by simp)
    have hs3 : Sub H H3 := hf3.sub hs2 hbk
    have hb2 := hb.sub hs2
    refine copy_rw tEn (n := 1) (cs := eE x) (by omega) rfl (hx H2 hb2) (fun e => by cases e) (.inr hw3) (eOne x) ?_
    refine ⟨_, rfl, H3, Sub.refl _, ⟨by omega, by omega, by omega⟩, ⟨by omega, by omega, by omega⟩, ?_⟩
    rw [slA_pos (show ((i + 1 : Nat) : Int) ≠ k by omega), slA_pos (show (i : Int) ≠ c by omega)]
    have hds : ((l.drop i).flatMap eE).length = (n - i) * 4 := by rw [length_flatMap eLen, List.length_drop, hll]
    obtain ⟨H4, hw4, g4, hf4⟩ := g3.put (p := i + 1) (ys := (l.drop i).flatMap eE) (by rw [hds]; omega) (by simp)
    have hs4 : Sub H H4 := hf4.sub hs3 hbk
    refine copy_rw tEn (n := n - i) (cs := (l.drop i).flatMap eE) (by omega) hds ?_ ?_ (.inr hw4) (flatOne _) ?_
    · intro a ha j v hv
      have ho : oa ≠ none := hrd.ne (i := i) (by omega) (by omega)
      cases hoa : oa with
      | none => exact absurd hoa ho
      | some a0 =>
        rw [hoa] at ha hrd
        simp [elemA] at ha
        subst ha
        rw [hcell_add]
        refine (hrd.mono hs3).flat eLen _ _ ?_
        have : l.flatMap eE = (l.take i).flatMap eE ++ (l.drop i).flatMap eE := by rw [← List.flatMap_append, List.take_append_drop]
        rw [this, List.getElem?_append_right (by rw [length_flatMap eLen, List.length_take]; omega), length_flatMap eLen, List.length_take, show i * 4 + j - min i l.length * 4 = j by rw [Nat.min_eq_left (by omega)]; omega]
        exact hv
    · intro e
      exact absurd e (hrd.elem_ne (by omega) (by omega))
    · have hfl : ((l.take i ++ List.replicate (n + 1 - i) (⟨ByteArray.empty, 0, 0, 0⟩ : En)).flatMap eE).length = (n + 1) * 4 := g1.len
      have e5 := put_two (xs := (l.take i ++ List.replicate (n + 1 - i) (⟨ByteArray.empty, 0, 0, 0⟩ : En)).flatMap eE) (p := (l.take i).flatMap eE) (y := eE x) (z := (l.drop i).flatMap eE) (a := i * 4) (b := (i + 1) * 4)
        (by rw [List.flatMap_append, List.take_left' (by rw [length_flatMap eLen, List.length_take]; omega)]) (by rw [hfl]; omega) (by rw [eLen]; omega) (by rw [hds, hfl]; omega)
      refine ⟨_, rfl, at0 b, k, rfl, ?_, fun q o hq hne => ?_, fun a ha => .inr (hbk a ha)⟩
      · rw [e5] at g4
        show Owns H4 _ _ _ _ _ ((l.take i ++ x :: l.drop i).flatMap eE)
        rw [List.flatMap_append, List.flatMap_cons, ← List.append_assoc]
        exact g4
      · exact hs4.le q o hq
  · have hin : i < n := by
      have : (i : Int) ≠ n := by simpa using h
      omega
    rw [e1] at h2
    have hc : n + 1 ≤ c := by simp at h2; omega
    rw [e1, e3]
    simp only [slA_zero, Int.toNat_natCast, Int.toNat_zero, Nat.sub_zero]
    have ho : oa ≠ none := hrd.ne (i := i) (by omega) (by omega)
    obtain ⟨a0, rfl⟩ : ∃ a0, oa = some a0 := by
      cases oa with
      | none => exact absurd rfl ho
      | some a0 => exact ⟨a0, rfl⟩
    obtain ⟨g, hgl, howX⟩ := how.extend (m := 1) hc
    have hbl : ∃ cur, a0 = ⟨a0.block, 0, none⟩ ∧ H a0.block = some (.cells cur 35 (0, 0)) ∧ cur.size ≠ 0 := by
      rcases how.row with ⟨e, _⟩ | ⟨g1, cur, e, hg, _, _, hcs, _⟩
      · cases e
      · cases e
        exact ⟨cur, rfl, hg, by omega⟩
    obtain ⟨cur, ea0, hg0, hcs0⟩ := hbl
    have hel : ∀ (p : Nat), p ≠ c → slA (some a0) (p : Int) c 4 = some ⟨a0.block, p * 4, none⟩ := fun p hp => by
      rw [slA_pos (show (p : Int) ≠ c by omega)]
      conv => lhs; rw [ea0]
      simp [elemA, Addr.add_lit]
    refine ⟨⟨by omega, by omega, by omega⟩, ⟨by omega, by omega, by omega⟩, ?_⟩
    rw [hel (i + 1) (by omega), hel i (by omega)]
    have hxs : H kb = some (.cells (eE x).toArray 35 (0, 0)) := hb
    refine overlaps_apart (tR := 4) (fn := Try.f29) tEn Try.func29 (by kernel_rfl) (by kernel_rfl) (by kernel_rfl) (by kernel_rfl) (a := ⟨kb, 0, none⟩) (b := ⟨a0.block, (i + 1) * 4, none⟩) (fun e => hne a0 rfl e.symm) hxs hg0 hcs0 ⟨false, rfl, fun _ => ?_, fun h => by simp at h⟩
    have hds : ((l.drop i).flatMap eE).length = (n - i) * 4 := by rw [length_flatMap eLen, List.length_drop, hll]
    have hfl : (l.flatMap eE ++ g).length = (n + 1) * 4 := howX.len
    have eA : ∀ p : Nat, elemA (some a0) (p : Int) 4 = some ⟨a0.block, p * 4, none⟩ := fun p => by
      conv => lhs; rw [ea0]
      simp [elemA, Addr.add_lit]
    obtain ⟨H3, hw3, g3, hf3⟩ := howX.put (p := i + 1) (ys := (l.drop i).flatMap eE) (by rw [hds]; omega) ho
    obtain ⟨H4, hw4, g4, hf4⟩ := g3.put (p := i) (ys := eE x) (by rw [eLen]; omega) ho
    rw [eA] at hw3 hw4
    refine ⟨H, Sub.refl _, ⟨by omega, by omega, by omega⟩, ⟨by omega, by omega, by omega⟩, ?_⟩
    refine copy_rw tEn (n := n - i) (cs := (l.drop i).flatMap eE) (by omega) hds ?_ (fun e => by cases e) (.inr hw3) (flatOne _) ?_
    · intro a ha j v hv
      cases ha
      have e6 : (⟨a0.block, i * 4, none⟩ : Addr) = a0.add (i * 4) := by
        conv => rhs; rw [ea0]
        simp [Addr.add_lit]
      rw [e6, hcell_add]
      refine hrd.flat eLen _ _ ?_
      have : l.flatMap eE = (l.take i).flatMap eE ++ (l.drop i).flatMap eE := by rw [← List.flatMap_append, List.take_append_drop]
      rw [this, List.getElem?_append_right (by rw [length_flatMap eLen, List.length_take]; omega), length_flatMap eLen, List.length_take, show i * 4 + j - min i l.length * 4 = j by rw [Nat.min_eq_left (by omega)]; omega]
      exact hv
    refine ⟨_, rfl, ⟨by omega, by omega, by omega⟩, ?_⟩
    refine copy_rw tEn (n := 1) (cs := eE x) (by omega) rfl (hx H3 (hb.frame hf3 fun a ha => (hne a ha).symm)) (fun e => by cases e) (.inr hw4) (eOne x) ?_
    refine ⟨_, rfl, some a0, c, rfl, ?_, fun q o hq hn' => hf4 q o (hf3 q o hq hn') hn', fun a ha => .inl ⟨a0, rfl, by cases ha; rfl⟩⟩
    rw [put_under (xs := l.flatMap eE ++ g) (y := (l.drop i).flatMap eE) (z := eE x) (a := i * 4) (b := (i + 1) * 4) (by rw [eLen]; omega) (by rw [hds, hfl]; omega)] at g4
    show Owns H4 _ _ _ _ _ ((l.take i ++ x :: l.drop i).flatMap eE)
    rw [List.flatMap_append, List.flatMap_cons, ← List.append_assoc]
    have e7 : (l.flatMap eE ++ g).take (i * 4) = (l.take i).flatMap eE := by
      conv => lhs; rw [← List.take_append_drop i l, List.flatMap_append, List.append_assoc]
      rw [List.take_left' (by rw [length_flatMap eLen, List.length_take]; omega)]
    rw [e7] at g4
    exact g4
end Go.Idx
