/- Lists of texts, and a copy of the map of names: the contracts. -/
import Derived.Test.YtlhnepjidbofnaaDoorMdlH
namespace Go.Mdl
open Go.Vx Go.Vc Go.Proofs

theorem stLen (s : ByteArray) : (strE s).length = 1 := rfl
theorem stOne (s : ByteArray) : ∀ u ∈ strE s, u.oneCell' = true := fun u hu => by simp [strE] at hu; subst hu; rfl
theorem tSt : ElemT Tryd.prog 27 9 1 16 := .of (by kernel_rfl)
theorem zSt : ∀ i z, Tryd.prog.info? 9 = some i → i.zero = some z → z.cells.toList = strE ⟨#[]⟩ := fun i z hi hz => by
  have h0 : (Tryd.prog.info? 9).bind (·.zero) = some (.string ⟨#[]⟩) := by kernel_rfl
  rw [hi] at h0
  simp [hz] at h0
  subst h0
  rfl
theorem cloneS_ok {H : PHeap} {oa : Option Addr} {n c : Nat} {l : List ByteArray} (hl : RdL H strE 1 oa n l) (hn : n ≤ 100000) :
    Triple Tryd.prog 76 #[.slice oa n c] H fun v H' => ∃ b k, v = .slice b n k ∧ OwnL H' 9 strE 1 b n k l ∧ Sub H H' ∧ Off H b :=
  clone_tr tSt stLen stOne (sCloneS.vc oa n c) hl (by simp [maxLen]; omega) (by omega)
theorem conS_ok {H : PHeap} {oa : Option Addr} {n c : Nat} {l : List ByteArray} (hl : RdL H strE 1 oa n l) (hn : n ≤ 100000) (s : ByteArray) :
    Triple Tryd.prog 77 #[.slice oa n c, .string s] H fun v H' => ∃ b, v = .bool b ∧ (b = true ↔ s ∈ l) ∧ H' = H := by
  have hln := hl.len
  refine sConS.vc oa n c s H _ (Triple.mono (Q := fun v H' => ∃ i : Int, v = .int .i64 i ∧ (0 ≤ i ↔ s ∈ l) ∧ H' = H) ?_ ?_)
  · refine sIdxS.vc oa n c s H _ ⟨fun t H' => match t with | [.int _ i] => 0 ≤ i ∧ i ≤ n ∧ H' = H ∧ s ∉ l.take i.toNat | _ => False, fun t _ => match t with | [.int _ i] => (n - i).toNat | _ => 0, ⟨by omega, by omega, rfl, by simp⟩, ?_⟩
    rintro i _ ⟨i0, i1, rfl, hno⟩
    obtain ⟨i, rfl⟩ : ∃ j : Nat, i = j := ⟨i.toNat, by omega⟩
    rw [Int.toNat_natCast] at hno
    refine ⟨fun hi => ?_, fun hi => ?_⟩
    · have hi' : i < n := by simpa using hi
      obtain ⟨y, hy, hyr⟩ := hl.ex (i := (i : Int)) (by omega) (by omega)
      rw [Int.toNat_natCast] at hy
      refine ⟨hl.ob (by omega) (by omega), y, hyr, fun e => ⟨i, rfl, ⟨fun _ => ?_, fun _ => by omega⟩, rfl⟩, fun e => ?_⟩
      · rw [eqS_iff.1 e]; exact List.mem_of_getElem? hy
      · rw [wrap64 (by omega) (by omega)]
        refine ⟨⟨by omega, by omega, rfl, ?_⟩, ⟨by simp only; omega⟩⟩
        rw [show ((i : Int) + 1).toNat = i + 1 by omega, List.take_add_one, hy, List.mem_append]
        exact fun h => h.elim hno fun h => eqS_false.1 e (by simpa using h)
    · have : ¬ i < n := by simpa using hi
      rw [List.take_of_length_le (by omega)] at hno
      exact ⟨-1, rfl, ⟨fun h => by omega, fun h => (hno h).elim⟩, rfl⟩
  · rintro _ _ ⟨i, rfl, hi, rfl⟩
    exact ⟨i, rfl, _, rfl, by rw [decide_eq_true_iff]; exact hi, rfl⟩
theorem cmpLess_ok (s t : ByteArray) : Pure Tryd.prog 55 #[.string s, .string t] (.bool (lessS s t)) := fun H => by
  have nan : ∀ (s : ByteArray) (H : PHeap), Triple Tryd.prog 73 #[.string s] H fun v H' => v = .bool false ∧ H' = H := fun s H => sIsNaN.vc s H _ ⟨by rw [eqS_iff.2 rfl]; rfl, rfl⟩
  refine sCmpLess.vc s t H _ ((nan s H).mono ?_)
  rintro _ _ ⟨rfl, rfl⟩
  exact ⟨false, rfl, (fun e => by cases e), fun _ => ⟨rfl, rfl⟩⟩
/-- Each is at least the one ahead. -/
def UpS (l : List ByteArray) : Prop := ∀ i s t, l[i]? = some s → l[i + 1]? = some t → lessS t s = false
theorem isSorted_ok {H : PHeap} {oa : Option Addr} {n c : Nat} {l : List ByteArray} (hl : RdL H strE 1 oa n l) (hn : n ≤ 100000) :
    Triple Tryd.prog 74 #[.slice oa n c] H fun v H' => ∃ b, v = .bool b ∧ (b = true ↔ UpS l) ∧ H' = H := by
  have hln := hl.len
  refine sIsSorted.vc oa n c H _ ⟨fun t H' => match t with | [.int _ i] => -1 ≤ i ∧ i ≤ (n : Int) - 1 ∧ H' = H ∧ ∀ (j : Nat) s t, i ≤ j → l[j]? = some s → l[j + 1]? = some t → lessS t s = false | _ => False, fun t _ => match t with | [.int _ i] => (i + 1).toNat | _ => 0, ?_, ?_⟩
  · show -1 ≤ IntKind.i64.wrap ((n : Int) - 1) ∧ IntKind.i64.wrap ((n : Int) - 1) ≤ (n : Int) - 1 ∧ H = H ∧ ∀ (j : Nat) s t, IntKind.i64.wrap ((n : Int) - 1) ≤ j → l[j]? = some s → l[j + 1]? = some t → lessS t s = false
    rw [wrap64 (by omega) (by omega)]
    refine ⟨by omega, by omega, rfl, fun j s t hj _ ht => ?_⟩
    have := (List.getElem?_eq_some_iff.1 ht).1
    omega
  rintro i _ ⟨i0, i1, rfl, hall⟩
  refine ⟨fun hi => ?_, fun hi => ?_⟩
  · have hi' : 0 < i := by simpa using hi
    have ew : IntKind.i64.wrap (i - 1) = i - 1 := wrap64 (by omega) (by omega)
    rw [ew]
    obtain ⟨y, hy, hyr⟩ := hl.ex (i := i) (by omega) (by omega)
    obtain ⟨x, hx, hxr⟩ := hl.ex (i := i - 1) (by omega) (by omega)
    refine ⟨_, Sub.refl _, hl.ob (by omega) (by omega), y, hyr, hl.ob (by omega) (by omega), x, hxr, (cmpLess_ok y x).use ⟨_, rfl, fun e => ⟨false, rfl, ⟨fun e => by (cases e), fun hu => ?_⟩, rfl⟩, fun e => ⟨⟨by omega, by omega, rfl, fun j s t hj hs ht => ?_⟩, ⟨by simp only; omega⟩⟩⟩⟩
    · have := hu (i - 1).toNat x y hx (by rw [show (i - 1).toNat + 1 = i.toNat by omega]; exact hy)
      rw [e] at this; cases this
    · by_cases e1 : (j : Int) = i - 1
      · rw [show j = (i - 1).toNat by omega] at hs ht
        rw [show (i - 1).toNat + 1 = i.toNat by omega] at ht
        rw [hx] at hs; rw [hy] at ht; cases hs; cases ht; exact e
      · exact hall j s t (by omega) hs ht
  · have hi' : ¬ 0 < i := by simpa using hi
    exact ⟨true, rfl, ⟨fun _ j s t hs ht => hall j s t (by omega) hs ht, fun _ => rfl⟩, rfl⟩
/-- No two neighbours are the same. -/
def ApS (l : List ByteArray) : Prop := ∀ i s t, l[i]? = some s → l[i + 1]? = some t → s ≠ t
theorem compact_ok {F H : PHeap} {oa : Option Addr} {n c : Nat} {l : List ByteArray} (hF : Sub F H) (ho : Off F oa) (how : OwnL H 9 strE 1 oa n c l) (hn : n ≤ 100000) :
    Triple Tryd.prog 75 #[.slice oa n c] H fun v H' => ∃ b k m, v = .slice b k m ∧ (k = n ↔ ApS l) ∧ Sub F H' := by
  have hl := how.rd (E := strE) (sz := 1) (by omega) stLen
  have hln := hl.len
  have hcap : n ≤ c := by rcases how.row with ⟨_, h1, h2⟩ | ⟨_, _, _, _, h1, _⟩ <;> omega
  refine sCompact.vc oa n c H _ ⟨fun h => ⟨oa, n, c, rfl, ⟨fun _ i s t hs ht => ?_, fun _ => rfl⟩, hF⟩, fun h => ?_⟩
  · have := (List.getElem?_eq_some_iff.1 ht).1
    have : n < 2 := by simp at h; omega
    omega
  have hn2 : 2 ≤ n := by simp at h; omega
  have hoa : oa ≠ none := hl.ne (i := 0) (by omega) (by omega)
  refine ⟨fun t H' => match t with | [.int _ i] => 1 ≤ i ∧ i ≤ n ∧ H' = H ∧ ∀ (j : Nat) s t, (j : Int) + 1 < i → l[j]? = some s → l[j + 1]? = some t → s ≠ t | _ => False, fun t _ => match t with | [.int _ i] => (n - i).toNat | _ => 0, ⟨by omega, by omega, rfl, fun j s t hj => by omega⟩, ?_⟩
  rintro i _ ⟨i0, i1, rfl, hall⟩
  refine ⟨fun hi => ?_, fun hi => ?_⟩
  · have hi' : i < n := by simpa using hi
    have ew : IntKind.i64.wrap (i - 1) = i - 1 := wrap64 (by omega) (by omega)
    rw [ew]
    obtain ⟨y, hy, hyr⟩ := hl.ex (i := i) (by omega) (by omega)
    obtain ⟨x, hx, hxr⟩ := hl.ex (i := i - 1) (by omega) (by omega)
    refine ⟨_, Sub.refl _, hl.ob (by omega) (by omega), y, hyr, hl.ob (by omega) (by omega), x, hxr, fun e => ⟨⟨by omega, by omega, by omega⟩, ?_⟩, fun e => ?_⟩
    · -- two are the same: it becomes shorter
      have hnot : ¬ ApS l := fun hu => hu (i - 1).toNat x y hx (by rw [show (i - 1).toNat + 1 = i.toNat by omega]; exact hy) (eqS_iff.1 e).symm
      obtain ⟨p, rfl⟩ : ∃ p : Nat, i = p := ⟨i.toNat, by omega⟩
      refine ⟨fun t H' => match t with | [.int _ a, .int _ b] => 1 ≤ a ∧ 1 ≤ b ∧ a ≤ p + b - 1 ∧ b ≤ n - p ∧ Sub F H' ∧ ∃ l', OwnL H' 9 strE 1 oa n c l' | _ => False, fun t _ => match t with | [_, .int _ b] => (n - b).toNat | _ => 0, ⟨by omega, by omega, by omega, by omega, hF, l, how⟩, ?_⟩
      rintro a b H1 ⟨a0, b0, ab, bn, hs1, l', how1⟩
      have hl1 := how1.rd (E := strE) (sz := 1) (by omega) stLen
      have hd1 := hl1.drop (i := p) (c := c) (by omega) hcap
      have hle : (((n : Int).toNat - (p : Int).toNat : Nat) : Int) = n - p := by omega
      refine ⟨fun hb => ?_, fun hb => ?_⟩
      · have hb' : b < n - p := by rw [hle] at hb; simpa using hb
        have ewb : IntKind.i64.wrap (b - 1) = b - 1 := wrap64 (by omega) (by omega)
        have ewb1 : IntKind.i64.wrap (b + 1) = b + 1 := wrap64 (by omega) (by omega)
        have ewa1 : IntKind.i64.wrap (a + 1) = a + 1 := wrap64 (by omega) (by omega)
        rw [ewb, ewb1, ewa1]
        obtain ⟨y1, hy1, hyr1⟩ := hd1.ex (i := b) (by omega) (by omega)
        obtain ⟨x1, hx1, hxr1⟩ := hd1.ex (i := b - 1) (by omega) (by omega)
        have ob1 : ∀ {q : Int}, 0 ≤ q → q < n - p → Ob (slA oa p c 1 ≠ none ∧ 0 ≤ q ∧ q < (((n : Int).toNat - (p : Int).toNat : Nat) : Int)) := fun h1 h2 => by
          have := (hd1.ob (i := _) h1 (by omega)).out
          exact ⟨this.1, h1, by rw [hle]; exact h2⟩
        refine ⟨_, Sub.refl _, ob1 (by omega) hb', y1, hyr1, ob1 (by omega) (by omega), x1, hxr1, fun _ => ⟨ob1 (by omega) hb', y1, hyr1, hl1.ob (by omega) (by omega), ?_⟩, fun _ => ⟨⟨by omega, by omega, by omega, by omega, hs1, l', how1⟩, ⟨by simp only; omega⟩⟩⟩
        obtain ⟨H2, hw, how2, hf2⟩ := Owns.set stLen how1 (by omega) (i := a) (by omega) (by omega) y1
        exact ⟨H2, hw, ⟨by omega, by omega, by omega, by omega, hf2.sub hs1 ho, _, how2⟩, ⟨by simp only; omega⟩⟩
      · have hb' : b = n - p := by rw [hle] at hb; have : ¬ b < n - p := by simpa using hb
                                   omega
        obtain ⟨q, rfl⟩ : ∃ q : Nat, a = q := ⟨a.toNat, by omega⟩
        have hqn : q < n := by omega
        obtain ⟨H2, hw, how2, hf2⟩ := how1.put (p := q) (ys := (List.replicate (n - q) (⟨#[]⟩ : ByteArray)).flatMap strE) (by rw [length_flatMap stLen, List.length_replicate]; omega) hoa
        refine ⟨⟨by omega, by omega, by omega⟩, ?_⟩
        rw [Int.toNat_natCast, Int.toNat_natCast]
        refine clear_rw tSt (H' := H2) (E := strE) (Z := ⟨#[]⟩) zSt (stOne _) (fun e => ?_) (.inr ?_) ?_
        · rw [slA_pos (show ((q : Nat) : Int) ≠ c by omega)] at e
          cases oa with
          | none => exact absurd rfl hoa
          | some a0 => simp [elemA] at e
        · rw [slA_pos (show ((q : Nat) : Int) ≠ c by omega)]; exact hw
        · refine ⟨⟨by omega, by omega, by omega⟩, _, _, _, rfl, ⟨fun e => ?_, fun e => (hnot e).elim⟩, hf2.sub hs1 ho⟩
          simp at e; omega
    · rw [wrap64 (by omega) (by omega)]
      refine ⟨⟨by omega, by omega, rfl, fun j s t hj hs ht => ?_⟩, ⟨by simp only; omega⟩⟩
      by_cases e1 : (j : Int) = i - 1
      · rw [show j = (i - 1).toNat by omega] at hs ht
        rw [show (i - 1).toNat + 1 = i.toNat by omega] at ht
        rw [hx] at hs; rw [hy] at ht; cases hs; cases ht
        exact fun e2 => eqS_false.1 e e2.symm
      · exact hall j s t (by omega) hs ht
  · have hi' : ¬ i < n := by simpa using hi
    exact ⟨oa, n, c, rfl, ⟨fun _ j s t hs ht => hall j s t (by have := (List.getElem?_eq_some_iff.1 ht).1; omega) hs ht, fun _ => rfl⟩, hF⟩
end Go.Mdl
