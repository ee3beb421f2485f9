/- The contracts of the reader of numbers and texts. -/
import Derived.Test.YtnecdiohiojfpaaPakW
import Derived.Test.YtnecdiohiojfpaaVcPakR
namespace Go.Pak
open Go.Vx Go.Vc Go.Proofs

/-- The block k holds a reader of these bytes, which F holds; whether some lacked. -/
structure RrS (F H : PHeap) (k : Nat) (l : List Int) (bad : Bool) : Prop where
  sub : Sub F H
  off : F k = none
  row : ∃ oa n c, Bx H k 62 [.slice oa n c, .bool bad] ∧ RdL F bE 1 oa n l ∧ n ≤ c
theorem RrS.mono {F H H' : PHeap} {k : Nat} {l : List Int} {bad : Bool} (h : RrS F H k l bad) (hs : Sub H H') : RrS F H' k l bad := by
  obtain ⟨oa, n, c, h1, h2, h3⟩ := h.row
  exact ⟨h.sub.trans hs, h.off, oa, n, c, h1.sub hs, h2, h3⟩
theorem read_ok {H : PHeap} {oa : Option Addr} {n c : Nat} {l : List Int} (h : RdL H bE 1 oa n l) (hc : n ≤ c) :
    Triple Try.prog 22 #[.slice oa n c] H fun v H' => ∃ k, v = .pointer (at0 k) ∧ RrS H H' k l false :=
  read.vc oa n c H _ fun k hk => ⟨k, rfl, Sub.upd _ hk, hk, oa, n, c, Bx.new H k _ _, h, hc⟩
theorem two_writes {H : PHeap} {k : Nat} {t : TypeId} {a a' : Value} {b b' : Bool} (h : Bx H k t [a, .bool b]) :
    ∃ H1 H2, Writes H H1 (fldA (at0 k) 0) [a'] ∧ Writes H1 H2 (fldA (at0 k) 1) [.bool b'] ∧ Bx H2 k t [a', .bool b'] ∧ ∀ q, q ≠ k → H2 q = H q := by
  have w1 := (h.writes [a', .bool b] rfl).part (A := []) (l2 := [a']) (B := [.bool b]) (old := [a]) h.reads rfl
  have h2 := Bx.new H k t [a', .bool b]
  have w2 := (h2.writes [a', .bool b'] rfl).part (A := [a']) (l2 := [.bool b']) (B := []) (old := [.bool b]) h2.reads rfl
  exact ⟨_, _, w1, w2, Bx.new _ k t _, fun q hq => by rw [Vx.upd_ne _ _ hq, Vx.upd_ne _ _ hq]⟩
theorem sub_but {F H H' : PHeap} {k : Nat} (h : Sub F H) (hk : F k = none) (hq : ∀ q, q ≠ k → H' q = H q) : Sub F H' :=
  ⟨fun q o ho => by rw [hq q (fun e => by rw [e, hk] at ho; cases ho)]; exact h.le _ _ ho⟩
/-- Bytes are cut off; none, if some lack. -/
theorem cut_ok {F H : PHeap} {k m : Nat} {l : List Int} {bad : Bool} (h : RrS F H k l bad) :
    Triple Try.prog 40 #[.pointer (at0 k), .int .i64 m] H fun v H' => ∃ b n c, v = .slice b n c ∧ (∀ q, q ≠ k → H' q = H q) ∧
      ((bad = true ∨ l.length < m) → n = 0 ∧ b = none ∧ RrS F H' k [] true) ∧
      (bad = false → m ≤ l.length → n = m ∧ RdL F bE 1 b m (l.take m) ∧ RrS F H' k (l.drop m) false) := by
  obtain ⟨oa, n, c, h1, h2, h3⟩ := h.row
  have hl := h2.len
  have em : maxI (m : Int) 0 = m := by unfold maxI; split <;> omega
  have r0 : Reads H (fldA (at0 k) 0) [.slice oa n c] := h1.readsAt 0 (fun j v hv => by
    match j, hv with
    | 0, hv => simpa using hv
    | j + 1, hv => simp at hv)
  have r1 : Reads H (fldA (at0 k) 1) [.bool bad] := h1.readsAt 1 (fun j v hv => by
    match j, hv with
    | 0, hv => simpa using hv
    | j + 1, hv => simp at hv)
  have lack : ∃ H1, Writes H H1 (fldA (at0 k) 0) [.slice none 0 0] ∧ ∃ H2, Writes H1 H2 (fldA (at0 k) 1) [.bool true] ∧ RrS F H2 k [] true ∧ ∀ q, q ≠ k → H2 q = H q := by
    obtain ⟨H1, H2, w1, w2, b2, hq⟩ := two_writes (a' := .slice none 0 0) (b' := true) h1
    exact ⟨H1, w1, H2, w2, ⟨sub_but h.sub h.off hq, h.off, none, 0, 0, b2, RdL.nil _ _ _, Nat.le_refl _⟩, hq⟩
  refine rCut.vc (at0 k) m H _ ⟨fun e => by simp [at0] at e, fun _ => ⟨neP k, neP k, bad, r1, fun hb => ⟨neP k, neP k, oa, n, c, r0, fun hgt => ⟨neP k, neP k, ?_⟩, fun hgt => ⟨neP k, neP k, oa, n, c, r0, ?_⟩⟩, fun hb => ⟨neP k, neP k, ?_⟩⟩⟩
  · rw [em] at hgt
    have hlt : l.length < m := by simp at hgt; omega
    obtain ⟨H1, w1, H2, w2, hR, hq⟩ := lack
    exact ⟨H1, w1, neP k, neP k, H2, w2, none, 0, 0, rfl, hq, fun _ => ⟨rfl, rfl, hR⟩, fun _ h => by omega⟩
  · rw [em] at hgt ⊢
    have hle : m ≤ l.length := by simp at hgt; omega
    simp only [slA_zero, Int.toNat_natCast, Int.toNat_zero, Nat.sub_zero]
    have w1 := (h1.writes [.slice (slA oa (m : Int) c 1) (n - m) (c - m), .bool bad] rfl).part (A := []) (l2 := [.slice (slA oa (m : Int) c 1) (n - m) (c - m)]) (B := [.bool bad]) (old := [.slice oa n c]) h1.reads rfl
    refine ⟨⟨by omega, by omega, by omega, by omega⟩, neP k, neP k, oa, n, c, r0, ⟨by omega, by omega, by omega⟩, neP k, neP k, _, w1, oa, m, m, rfl, fun q hq => Vx.upd_ne _ _ hq, fun hor => ?_, fun _ _ => ⟨rfl, h2.take (by omega), Bx.sub_of h.sub h.off, h.off, slA oa (m : Int) c 1, n - m, c - m, ?_, h2.drop (by omega) h3, by omega⟩⟩
    · rcases hor with hor | hor
      · rw [hb] at hor; cases hor
      · omega
    · rw [← hb]; exact Bx.new _ k _ _
  · have hb' : bad = true := by simpa using hb
    obtain ⟨H1, w1, H2, w2, hR, hq⟩ := lack
    exact ⟨H1, w1, neP k, neP k, H2, w2, none, 0, 0, rfl, hq, fun _ => ⟨rfl, rfl, hR⟩, fun h _ => by rw [hb'] at h; cases h⟩
theorem or_byte {n c : Int} (h0 : 0 ≤ n) (h1 : n < 16777216) (c0 : 0 ≤ c) (c1 : c ≤ 255) : bitsOp BinOp.or IntKind.i64 (shlI IntKind.i64 n 8) (IntKind.i64.wrap c) = n * 256 + c := by
  rw [wrap64 (n := c) (by omega) (by omega)]
  have e1 : shlI IntKind.i64 n 8 = n * 256 := by
    unfold shlI
    have : IntKind.i64.wrap (n * 256) = n * 256 := wrap64 (by omega) (by omega)
    simpa [IntKind.bits] using this
  rw [e1]
  obtain ⟨a, rfl⟩ : ∃ a : Nat, n = a := ⟨n.toNat, by omega⟩
  obtain ⟨b, rfl⟩ : ∃ b : Nat, c = b := ⟨c.toNat, by omega⟩
  have e2 : a <<< 8 + b = a <<< 8 ||| b := Nat.shiftLeft_add_eq_or_of_lt (by omega) a
  have e3 : a <<< 8 = a * 256 := by rw [Nat.shiftLeft_eq]
  rw [e3] at e2
  unfold bitsOp
  have e4 : (BitVec.ofInt IntKind.i64.bits ((a : Int) * 256) ||| BitVec.ofInt IntKind.i64.bits (b : Int)).toNat = a * 256 + b := by
    rw [BitVec.toNat_or]
    have t1 : (BitVec.ofInt IntKind.i64.bits ((a : Int) * 256)).toNat = a * 256 := by
      rw [show (a : Int) * 256 = ((a * 256 : Nat) : Int) by omega, BitVec.ofInt_natCast, BitVec.toNat_ofNat]
      exact Nat.mod_eq_of_lt (by simp [IntKind.bits]; omega)
    have t2 : (BitVec.ofInt IntKind.i64.bits (b : Int)).toNat = b := by
      rw [BitVec.ofInt_natCast, BitVec.toNat_ofNat]
      exact Nat.mod_eq_of_lt (by simp [IntKind.bits]; omega)
    rw [t1, t2, e2]
  simp only [e4]
  rw [wrap64 (by omega) (by omega)]
  omega
/-- A number of bytes. -/
def numOf (l : List Int) : Int := l.foldl (fun n c => n * 256 + c) 0
theorem numOf_snoc (l : List Int) (c : Int) : numOf (l ++ [c]) = numOf l * 256 + c := by unfold numOf; rw [List.foldl_append]; rfl
theorem foldl_range : ∀ (l : List Int) (a b : Int), (∀ c ∈ l, 0 ≤ c ∧ c ≤ 255) → 0 ≤ a → a < b → 0 ≤ l.foldl (fun n c => n * 256 + c) a ∧ l.foldl (fun n c => n * 256 + c) a < b * 256 ^ l.length
  | [], a, b, _, h0, h1 => by simp; omega
  | c :: l, a, b, h, h0, h1 => by
    have hc := h c (by simp)
    have := foldl_range l (a * 256 + c) (b * 256) (fun x hx => h x (by simp [hx])) (by omega) (by omega)
    rw [List.foldl_cons, List.length_cons, Int.pow_succ, Int.mul_comm (256 ^ l.length) 256, ← Int.mul_assoc]
    exact this
theorem numOf_range (l : List Int) (h : ∀ c ∈ l, 0 ≤ c ∧ c ≤ 255) : 0 ≤ numOf l ∧ numOf l < 256 ^ l.length := by
  have := foldl_range l 0 1 h (by omega) (by omega)
  rwa [Int.one_mul] at this
theorem rNum_ok {F H : PHeap} {k w : Nat} {l : List Int} {bad : Bool} (h : RrS F H k l bad) (h1 : 1 ≤ w) (h4 : w ≤ 4) (hl : ∀ c ∈ l, 0 ≤ c ∧ c ≤ 255) :
    Triple Try.prog 31 #[.pointer (at0 k), .int .i64 w] H fun v H' => (∀ q, q ≠ k → H' q = H q) ∧
      ((bad = true ∨ l.length < w) → v = .int .i64 0 ∧ RrS F H' k [] true) ∧ (bad = false → w ≤ l.length → v = .int .i64 (numOf (l.take w)) ∧ RrS F H' k (l.drop w) false) := by
  refine rNum.vc (at0 k) w H _ ((width_ok _).mono ?_)
  rintro _ H ⟨rfl, rfl⟩
  rw [width_id h1 h4]
  refine ⟨_, rfl, (cut_ok (m := w) h).mono ?_⟩
  rintro _ H1 ⟨b, n, c, rfl, hq, hA, hB⟩
  refine ⟨b, n, c, rfl, ?_⟩
  by_cases hbad : bad = true ∨ l.length < w
  · obtain ⟨rfl, rfl, hR⟩ := hA hbad
    refine ⟨fun t H' => match t with | [.int _ x, .int _ i] => x = 0 ∧ i = 0 ∧ H' = H1 | _ => False, fun _ _ => 0, ⟨rfl, rfl, rfl⟩, ?_⟩
    rintro x i H2 ⟨rfl, rfl, rfl⟩
    exact ⟨fun e => by simp at e, fun _ => ⟨hq, fun _ => ⟨rfl, hR⟩, fun e1 e2 => (by rcases hbad with e | e; (rw [e1] at e; cases e); omega)⟩⟩
  · have hb : bad = false := by
      cases bad with
      | false => rfl
      | true => exact absurd (.inl rfl) hbad
    have hw : w ≤ l.length := Nat.le_of_not_lt fun e => hbad (.inr e)
    obtain ⟨rfl, hrd, hR⟩ := hB hb hw
    have hrd1 := hrd.mono hR.sub
    have hrl := hrd.len
    refine ⟨fun t H' => match t with | [.int _ x, .int _ i] => 0 ≤ i ∧ i ≤ n ∧ x = numOf ((l.take n).take i.toNat) ∧ H' = H1 | _ => False, fun t _ => match t with | [_, .int _ i] => (n - i).toNat | _ => 0, ⟨by omega, by omega, rfl, rfl⟩, ?_⟩
    rintro x i H2 ⟨i0, i1, rfl, rfl⟩
    obtain ⟨i, rfl⟩ : ∃ j : Nat, i = j := ⟨i.toNat, by omega⟩
    rw [Int.toNat_natCast]
    refine ⟨fun hi => ?_, fun hi => ?_⟩
    · have hi' : i < n := by simpa using hi
      obtain ⟨y, hy, hyr⟩ := hrd1.ex (i := (i : Int)) (by omega) (by omega)
      rw [Int.toNat_natCast] at hy
      have hyr2 := hl y (List.mem_of_mem_take (List.mem_of_getElem? hy))
      have hx := numOf_range ((l.take n).take i) fun c hc => hl c (List.mem_of_mem_take (List.mem_of_mem_take hc))
      have hxl : ((l.take n).take i).length ≤ 3 := by rw [List.length_take]; omega
      have hx2 : numOf ((l.take n).take i) < 16777216 := by
        have : ∀ q : Nat, q ≤ 3 → (256 : Int) ^ q ≤ 16777216 := fun q hq => by
          match q, hq with
          | 0, _ => decide
          | 1, _ => decide
          | 2, _ => decide
          | 3, _ => decide
        have := this _ hxl
        omega
      refine ⟨hrd1.ob (by omega) (by omega), y, hyr, ⟨by omega⟩, ?_⟩
      rw [or_byte hx.1 hx2 hyr2.1 hyr2.2, wrapS (by omega) (by omega)]
      refine ⟨⟨by omega, by omega, ?_, rfl⟩, ⟨by simp only; omega⟩⟩
      rw [show ((i : Int) + 1).toNat = i + 1 by omega, List.take_add_one (l := l.take n), hy, ← numOf_snoc]
      rfl
    · have hi' : ¬ i < n := by simpa using hi
      rw [List.take_of_length_le (l := l.take n) (by omega)]
      exact ⟨hq, fun e => absurd e hbad, fun _ _ => ⟨rfl, hR⟩⟩
/-- Bytes are read. -/
theorem rRaw_ok {F H : PHeap} {k m : Nat} {l : List Int} {bad : Bool} (h : RrS F H k l bad) (hm : m ≤ 1000000) :
    Triple Try.prog 32 #[.pointer (at0 k), .int .i64 m] H fun v H' => ∃ b n c, v = .slice b n c ∧ n ≤ c ∧ (∀ q, q ≠ k → H q ≠ none → H' q = H q) ∧
      ((bad = true ∨ l.length < m) → n = 0 ∧ RrS F H' k [] true) ∧ (bad = false → m ≤ l.length → n = m ∧ RdL H' bE 1 b m (l.take m) ∧ RrS F H' k (l.drop m) false) := by
  refine rRaw.vc (at0 k) m H _ fun k3 hk3 => ?_
  have hs3 := Sub.upd (.cells #[] 5 (0, 0)) hk3
  have hk3k : k3 ≠ k := fun e => by
    obtain ⟨oa, n, c, h1, _⟩ := h.row
    unfold Bx at h1
    rw [← e, hk3] at h1; cases h1
  have hF3 : F k3 = none := by
    cases e : F k3 with
    | none => rfl
    | some o => have := h.sub.le _ _ e; rw [hk3] at this; cases this
  refine (cut_ok (m := m) (h.mono hs3)).mono ?_
  rintro _ H1 ⟨b, n, c, rfl, hq, hA, hB⟩
  refine ⟨b, n, c, rfl, ?_⟩
  have how : OwnL H1 5 bE 1 (at0 k3) 0 0 [] := Owns.mono (Owns.empty H k3 _ 1) fun a o ha ho => by
    cases ha
    rw [hq k3 hk3k]; exact ho
  have fin : ∀ (x : List Int), RdL H1 bE 1 b n x → n ≤ 1000000 → ∀ (l2 : List Int) (bad2 : Bool), RrS F H1 k l2 bad2 → EvV Try.prog (Builtin.append_ #[34, 34] 34 #[.slice (at0 k3) 0 0, .slice b n c]) H1 fun v H' =>
      ∃ b' c', v = .slice b' n c' ∧ n ≤ c' ∧ (∀ q, q ≠ k → H q ≠ none → H' q = H q) ∧ RdL H' bE 1 b' n x ∧ RrS F H' k l2 bad2 := by
    intro x hx hn l2 bad2 hR
    refine append_rd tB (E := bE) (l := []) bLen how hx bOne (by simp only [maxLen]; omega) (by omega) ?_
    intro b2 c2 H2 g1 g2 g3
    rw [List.nil_append] at g1
    rw [Nat.zero_add] at g1 ⊢
    obtain ⟨oa', n', c', j1, j2, j3⟩ := hR.row
    refine ⟨b2, c2, rfl, g1.le, fun q hqk hqn => ?_, g1.rd (E := bE) (sz := 1) (by omega) bLen, g2.sub hR.sub (fun a ha => by cases ha; exact hF3), hR.off, oa', n', c', j1.frame g2 (fun a ha => by cases ha; exact fun e => hk3k e.symm), j2, j3⟩
    have hq3 : q ≠ k3 := fun e => hqn (e ▸ hk3)
    cases hv : H q with
    | none => exact absurd hv hqn
    | some o =>
      refine g2 q o ?_ (fun a ha => by cases ha; exact hq3)
      rw [hq q hqk, Vx.upd_ne _ _ hq3]; exact hv
  by_cases hbad : bad = true ∨ l.length < m
  · obtain ⟨rfl, rfl, hR⟩ := hA hbad
    refine ⟨fun w hs => ?_⟩
    obtain ⟨v, w', H', hr, hn, b', c', rfl, e1, e2, e3, e4⟩ := (fin [] (RdL.nil _ _ _) (by omega) _ _ hR).out w hs
    exact ⟨_, w', H', hr, hn, b', 0, c', rfl, b', 0, c', rfl, e1, e2, fun _ => ⟨rfl, e4⟩, fun h1 h2 => by
      rcases hbad with e | e
      · rw [h1] at e; cases e
      · omega⟩
  · have hb : bad = false := by
      cases bad with
      | false => rfl
      | true => exact absurd (.inl rfl) hbad
    have hw : m ≤ l.length := Nat.le_of_not_lt fun e => hbad (.inr e)
    obtain ⟨rfl, hrd, hR⟩ := hB hb hw
    refine ⟨fun w hs => ?_⟩
    obtain ⟨v, w', H', hr, hn, b', c', rfl, e1, e2, e3, e4⟩ := (fin _ (hrd.mono hR.sub) hm _ _ hR).out w hs
    exact ⟨_, w', H', hr, hn, b', n, c', rfl, b', n, c', rfl, e1, e2, fun e => absurd e hbad, fun _ _ => ⟨rfl, e3, e4⟩⟩
theorem good_ok {F H : PHeap} {k : Nat} {l : List Int} {bad : Bool} (h : RrS F H k l bad) : Triple Try.prog 33 #[.pointer (at0 k)] H fun v H' => v = .bool (!bad) ∧ H' = H := by
  obtain ⟨oa, n, c, h1, h2, h3⟩ := h.row
  exact rGood.vc (at0 k) H _ ⟨fun _ => ⟨neP k, neP k, bad, h1.readsAt 1 (fun j v hv => by
    match j, hv with
    | 0, hv => simpa using hv
    | j + 1, hv => simp at hv), rfl, rfl⟩, fun e => by simp [at0] at e⟩
theorem left_ok {F H : PHeap} {k : Nat} {l : List Int} {bad : Bool} (h : RrS F H k l bad) : Triple Try.prog 24 #[.pointer (at0 k)] H fun v H' => v = .int .i64 l.length ∧ H' = H := by
  obtain ⟨oa, n, c, h1, h2, h3⟩ := h.row
  exact rLeft.vc (at0 k) H _ ⟨fun e => by simp [at0] at e, fun _ => ⟨neP k, neP k, oa, n, c, h1.readsAt 0 (fun j v hv => by
    match j, hv with
    | 0, hv => simpa using hv
    | j + 1, hv => simp at hv), by rw [h2.len], rfl⟩⟩
end Go.Pak
