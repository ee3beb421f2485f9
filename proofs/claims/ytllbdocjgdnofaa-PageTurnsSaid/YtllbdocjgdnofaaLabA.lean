/- The contracts of names: whether a text is one, which is less; going through lists of texts. -/
import Derived.Test.YtllbdocjgdnofaaLabP
import Derived.Test.YtllbdocjgdnofaaVcLab
import Derived.Test.YtllbdocjgdnofaaShelf
namespace Go.Lab
open Go.Vx Go.Vc Go.Proofs Go.Txt

def signP (c : Int) : Prop := (97 ≤ c ∧ c ≤ 122) ∨ (48 ≤ c ∧ c ≤ 57) ∨ c = 45
/-- A text is a name. -/
def NameP (s : ByteArray) : Prop := 1 ≤ s.size ∧ s.size ≤ 16 ∧ byteAt s 0 ≠ 45 ∧ ∀ i : Nat, i < s.size → signP (byteAt s i)
theorem byteAt_range (s : ByteArray) (i : Int) : 0 ≤ byteAt s i ∧ byteAt s i ≤ 255 := by
  unfold byteAt
  have := UInt8.toNat_lt ((s.data[i.toNat]?).getD 0)
  omega
theorem refRight_ok {H : PHeap} (s : ByteArray) : Triple Try.prog 8 #[.string s] H fun v H' => ∃ b, v = .bool b ∧ H' = H ∧ (b = true ↔ NameP s) := by
  refine refRight.vc s H _ ⟨fun hs => ?_, fun hs => ?_⟩
  · refine ⟨_, rfl, rfl, ?_⟩
    simp only [Bool.false_eq_true, false_iff]
    simp only [Bool.cond_eq_ite] at hs
    intro hn
    have := hn.1
    have := hn.2.1
    grind
  · have hsz : 1 ≤ s.size ∧ s.size ≤ 16 := by
      simp only [Bool.cond_eq_ite] at hs
      grind
    refine ⟨fun l H' => match l with | [.int _ i] => 0 ≤ i ∧ i ≤ s.size ∧ H' = H ∧ ∀ j : Nat, (j : Int) < i → signP (byteAt s j) ∧ (j = 0 → byteAt s j ≠ 45) | _ => False, fun l _ => match l with | [.int _ i] => (s.size - i).toNat | _ => 0, ⟨by omega, by omega, rfl, fun j hj => by omega⟩, ?_⟩
    rintro i H1 ⟨i0, i1, rfl, hall⟩
    refine ⟨fun hi => ⟨⟨i0, by simpa using hi⟩, ?_⟩, fun hi => ?_⟩
    · have hi' : i < s.size := by simpa using hi
      have hr := byteAt_range s i
      have ew : IntKind.i64.wrap (byteAt s i) = byteAt s i := wrap64 (by omega) (by omega)
      rw [ew]
      refine ⟨fun h => ⟨_, rfl, rfl, ?_⟩, fun h => ?_⟩
      · simp only [Bool.false_eq_true, false_iff]
        intro hn
        have h1 := hn.2.2.2 i.toNat (by omega)
        rw [show ((i.toNat : Nat) : Int) = i by omega] at h1
        have h2 := hn.2.2.1
        unfold signP at h1
        simp only [Bool.cond_eq_ite] at h
        grind
      · rw [wrapS i0 (by omega)]
        refine ⟨⟨by omega, by omega, rfl, fun j hj => ?_⟩, ⟨by simp only; omega⟩⟩
        by_cases e : (j : Int) = i
        · rw [e]
          unfold signP
          simp only [Bool.cond_eq_ite] at h
          grind
        · exact hall j (by omega)
    · have hi' : ¬ i < s.size := by simpa using hi
      refine ⟨_, rfl, rfl, ?_⟩
      simp only [true_iff]
      exact ⟨hsz.1, hsz.2, (hall 0 (by omega)).2 rfl, fun j hj => (hall j (by omega)).1⟩
theorem less_ok (s t : ByteArray) : Pure Try.prog 22 #[.string s, .string t] (.bool (lessS s t)) := fun H => less.vc s t H _ ⟨rfl, rfl⟩
theorem far_ok {H : PHeap} {oa : Option Addr} {n c : Nat} {l : List ByteArray} (hl : RdL H sE 1 oa n l) : Triple Try.prog 6 #[.slice oa n c] H fun v H' => ∃ b, v = .bool b ∧ H' = H ∧ (b = false → n ≤ 60 ∧ ∀ x ∈ l, x.size ≤ 40) := by
  have hll := hl.len
  refine farS.vc oa n c H _ ⟨fun l' H' => match l' with | [.int _ i] => 0 ≤ i ∧ i ≤ n ∧ H' = H ∧ ∀ x ∈ l.take i.toNat, x.size ≤ 40 | _ => False, fun l' _ => match l' with | [.int _ i] => (n - i).toNat | _ => 0, ⟨by omega, by omega, rfl, by simp⟩, ?_⟩
  rintro i H1 ⟨i0, i1, rfl, hall⟩
  refine ⟨fun hc => ?_, fun hc => ⟨_, rfl, rfl, fun hb => ?_⟩⟩
  · have hi : i < n ∧ i < 100 := by
      simp only [Bool.cond_eq_ite] at hc
      grind
    obtain ⟨x, hx, hxr⟩ := hl.ex i0 hi.1
    refine ⟨hl.ob i0 hi.1, x, hxr, fun _ => ⟨_, rfl, rfl, fun e => by cases e⟩, fun hs => ?_⟩
    rw [wrapS i0 (by omega)]
    refine ⟨⟨by omega, by omega, rfl, fun y hy => ?_⟩, ⟨by simp only; omega⟩⟩
    rw [show (i + 1).toNat = i.toNat + 1 by omega, List.take_add_one, hx] at hy
    rcases List.mem_append.1 hy with hy | hy
    · exact hall y hy
    · simp at hy
      subst hy
      simp at hs
      omega
  · have hn : n ≤ 60 := by simp at hb; omega
    have hi : ¬ (i < n ∧ i < 100) := by
      simp only [Bool.cond_eq_ite] at hc
      grind
    rw [List.take_of_length_le (by omega)] at hall
    exact ⟨hn, hall⟩

/-! ### Through lists of texts -/
theorem CallY.mono {P : Program} {f : Value} {args : Array Value} {H : PHeap} {Q Q' : Value → PHeap → Prop} (h : CallY P f args H Q) (hq : ∀ v H', Q v H' → Q' v H') : CallY P f args H Q' :=
  ⟨fun w hs => (h.out w hs).imp (fun ⟨g, xs, h1, h2⟩ => ⟨g, xs, h1, h2.mono fun _ _ ⟨v, H', he, hn, hQ⟩ => ⟨v, H', he, hn, hq v H' hQ⟩⟩) fun ⟨l, g, tmps, as_, body, h1, h2⟩ => ⟨l, g, tmps, as_, body, h1, RoundIn.mono h2 fun _ _ ⟨v, H', he, hn, hQ⟩ => ⟨v, H', he, hn, hq v H' hQ⟩⟩⟩
abbrev TT := Sl ByteArray
/-- Lists of texts are read. -/
structure RdT (H : PHeap) (oa : Option Addr) (n : Nat) (ps : List TT) : Prop where
  top : RdL H Sl.E 1 oa n ps
  each : ∀ p ∈ ps, RdL H sE 1 p.oa p.n p.l
theorem RdT.mono {H H' : PHeap} {oa : Option Addr} {n : Nat} {ps : List TT} (h : RdT H oa n ps) (hs : Sub H H') : RdT H' oa n ps := ⟨h.top.mono hs, fun p hp => (h.each p hp).mono hs⟩
def allT (ps : List TT) : List ByteArray := ps.flatMap (·.l)
theorem allT_at {ps : List TT} {i j : Nat} {p : TT} {x : ByteArray} (hp : ps[i]? = some p) (hx : p.l[j]? = some x) : (allT ps)[(allT (ps.take i)).length + j]? = some x := by
  have e : ps = ps.take i ++ p :: ps.drop (i + 1) := by
    have hd : ps.drop i = p :: ps.drop (i + 1) := by rw [List.drop_eq_getElem?_toList_append, hp]; rfl
    rw [← hd, List.take_append_drop]
  have hj := (List.getElem?_eq_some_iff.1 hx).1
  have e2 : ps.flatMap (·.l) = (ps.take i).flatMap (·.l) ++ (p.l ++ (ps.drop (i + 1)).flatMap (·.l)) := by
    conv => lhs; rw [e]
    rw [List.flatMap_append, List.flatMap_cons]
  unfold allT
  rw [e2, List.getElem?_append_right (by omega), Nat.add_sub_cancel_left, List.getElem?_append_left hj]
  exact hx
theorem allT_take {ps : List TT} {i : Nat} {p : TT} (hp : ps[i]? = some p) : (allT (ps.take (i + 1))).length = (allT (ps.take i)).length + p.l.length := by
  unfold allT
  rw [List.take_add_one, hp, List.flatMap_append]
  simp
theorem iter_ok {H : PHeap} {k : Nat} {oa : Option Addr} {n c : Nat} {ps : List TT} (hb : Bx H k 22 [.slice oa n c]) (h : RdT H oa n ps) (hn : n ≤ 100000) (hps : ∀ p ∈ ps, p.n ≤ 100000) :
    IterOk Try.prog (.func (.func 58) #[] #[.pointer (at0 k)]) H ((allT ps).map fun s => [Value.string s]) := by
  refine ⟨fun y J X H0 hJ0 hsub hy => CallV.fn (by kernel_rfl) ?_⟩
  have hl := h.top.len
  have hlen : ((allT ps).map fun s => [Value.string s]).length = (allT ps).length := by simp
  refine each1.vc y (at0 k) H0 _ ⟨oa, n, c, (hb.sub (hsub 0 H0 hJ0)).reads, fun t H' => match t with | [.int _ i] => 0 ≤ i ∧ i ≤ n ∧ J (allT (ps.take i.toNat)).length H' | _ => False, fun t _ => match t with | [.int _ i] => (n - i).toNat | _ => 0, ⟨by omega, by omega, by simpa [allT] using hJ0⟩, ?_⟩
  rintro i H1 ⟨i0, i1, hJ1⟩
  obtain ⟨i, rfl⟩ : ∃ j : Nat, i = j := ⟨i.toNat, by omega⟩
  rw [Int.toNat_natCast] at hJ1
  have h1 := h.mono (hsub _ _ hJ1)
  refine ⟨fun hi => ?_, fun hi => ?_⟩
  · have hi' : i < n := by simpa using hi
    obtain ⟨p, hp, hpr⟩ := h1.top.ex (i := (i : Int)) (by omega) (by omega)
    rw [Int.toNat_natCast] at hp
    have hpm := List.mem_of_getElem? hp
    have hpl := (h.each p hpm).len
    have hpn := hps p hpm
    refine ⟨h1.top.ob (by omega) (by omega), p.oa, p.n, p.c, hpr, fun t H' => match t with | [.int _ j] => 0 ≤ j ∧ j ≤ p.n ∧ J ((allT (ps.take i)).length + j.toNat) H' | _ => False, fun t _ => match t with | [.int _ j] => (p.n - j).toNat | _ => 0, ⟨by omega, by omega, by simpa using hJ1⟩, ?_⟩
    rintro j H2 ⟨j0, j1, hJ2⟩
    obtain ⟨j, rfl⟩ : ∃ q : Nat, j = q := ⟨j.toNat, by omega⟩
    rw [Int.toNat_natCast] at hJ2
    have h2 := (h.each p hpm).mono (hsub _ _ hJ2)
    refine ⟨fun hj => ?_, fun hj => ?_⟩
    · have hj' : j < p.n := by simpa using hj
      obtain ⟨x, hx, hxr⟩ := h2.ex (i := (j : Int)) (by omega) (by omega)
      rw [Int.toNat_natCast] at hx
      refine ⟨h2.ob (by omega) (by omega), x, hxr, CallY.mono (hy _ [Value.string x] H2 (by rw [List.getElem?_map, allT_at hp hx]; rfl) hJ2) ?_⟩
      rintro v H3 (⟨rfl, hJ3⟩ | ⟨rfl, hX⟩)
      · refine ⟨true, rfl, fun e => by simp at e, fun _ => ?_⟩
        rw [wrapS (by omega) (by omega)]
        refine ⟨⟨by omega, by omega, ?_⟩, ⟨by simp only; omega⟩⟩
        rw [show ((j : Int) + 1).toNat = j + 1 by omega]
        exact hJ3
      · exact ⟨false, rfl, fun _ => .inr hX, fun e => by simp at e⟩
    · have hj' : ¬ j < p.n := by simpa using hj
      rw [wrapS (by omega) (by omega)]
      refine ⟨⟨by omega, by omega, ?_⟩, ⟨by simp only; omega⟩⟩
      rw [show ((i : Int) + 1).toNat = i + 1 by omega, allT_take hp, hpl, show p.n = j by omega]
      exact hJ2
  · have hi' : ¬ i < n := by simpa using hi
    rw [List.take_of_length_le (by omega)] at hJ1
    rw [hlen]
    exact .inl hJ1
theorem sortS : SortC Try.prog 49 (fun l : List UInt8 => Value.string ⟨l.toArray⟩) (fun zs : List (List UInt8) => zs.mergeSort fun x y => decide (x ≤ y)) :=
  ⟨fun blk cap zs w h1 h2 h3 => Try.slices_Sort_string blk 0 cap zs w h1 h2 h3, fun cap w => Try.slices_Sort_string_none none cap w, fun zs => List.length_mergeSort _⟩
end Go.Lab
