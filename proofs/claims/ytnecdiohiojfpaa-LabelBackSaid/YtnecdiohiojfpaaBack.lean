/- The contracts of a name's bytes; what LabelBack tells: true. -/
import Derived.Test.YtnecdiohiojfpaaLabC
import Derived.Test.YtnecdiohiojfpaaPakR
import Derived.Test.YtnecdiohiojfpaaVcBack
namespace Go.Lab
open Go.Vx Go.Vc Go.Proofs Go.Txt Go.Pak

abbrev nil_ : ByteArray := ⟨#[]⟩
/-- A name's bytes, or noughts. -/
def nm (s : ByteArray) : List Int := [(s.size : Int)] ++ bytesL s ++ List.replicate (16 - s.size) 0
theorem nm_len {s : ByteArray} (h : s.size ≤ 16) : (nm s).length = 17 := by simp [nm, bytesL_len]; omega
theorem nm_range {s : ByteArray} (h : s.size ≤ 16) : ∀ x ∈ nm s, 0 ≤ x ∧ x ≤ 255 := by
  intro x hx
  unfold nm at hx
  rcases List.mem_append.1 hx with hx | hx
  · rcases List.mem_append.1 hx with hx | hx
    · simp at hx; omega
    · exact bytesL_range hx
  · have := (List.mem_replicate.1 hx).2; omega
theorem zB : ∀ i z, Try.prog.info? 5 = some i → i.zero = some z → z.cells.toList = bE 0 := fun i z hi hz => by
  have h0 : (Try.prog.info? 5).bind (·.zero) = some (.int .u8 0) := by kernel_rfl
  rw [hi] at h0
  simp [hz] at h0
  subst h0
  rfl
theorem putL_ok {F H : PHeap} {k : Nat} {l : List Int} {s : ByteArray} (h : WrS F H k l) (hl : l.length ≤ 1000) :
    Triple Try.prog 17 #[.pointer (at0 k), .string s] H fun v H' => v = .tuple #[] ∧ ∃ b : Bool, (b = true ↔ NameP s) ∧ WrS F H' k (l ++ nm (bif !b then nil_ else s)) := by
  refine putL.vc (at0 k) s H _ ((right_ok s).mono ?_)
  rintro _ H ⟨b, rfl, rfl, hb⟩
  refine ⟨b, rfl, ?_⟩
  have hsz : (bif !b then nil_ else s).size ≤ 16 := by
    cases b with
    | true => exact (hb.1 rfl).2.1
    | false => simp [ByteArray.size]
  have hfin : ∀ {G : PHeap} {x : List Int}, WrS F G k x → x = l ++ nm (bif !b then nil_ else s) → ∃ b : Bool, (b = true ↔ NameP s) ∧ WrS F G k (l ++ nm (bif !b then nil_ else s)) := fun hx e => ⟨b, hb, by rw [← e]; exact hx⟩
  generalize (bif !b then nil_ else s) = t at *
  have hm : maxI (t.size : Int) 0 = t.size := by unfold maxI; split <;> omega
  have hn := num_ok (n := t.size) h (w := 1) (by omega) (by omega) (by omega)
  rw [hm, numB_one (by omega) (by omega)] at hn
  refine hn.mono ?_
  rintro _ H1 ⟨rfl, h1⟩
  refine ⟨rfl, str_bytes Try.underlying9 Try.underlying34 Try.underlying5 fun b2 c2 H2 _ hrd hs2 => ⟨_, _, _, rfl, ?_⟩⟩
  refine (raw_ok (h1.mono hs2) hrd (by rw [List.length_append]; simp; omega)).mono ?_
  rintro _ H3 ⟨rfl, h3⟩
  refine ⟨rfl, ?_⟩
  have ew : IntKind.i64.wrap (16 - (t.size : Int)) = ((16 - t.size : Nat) : Int) := by rw [show (16 : Int) - (t.size : Int) = ((16 - t.size : Nat) : Int) by omega]; exact wrap64 (by omega) (by omega)
  rw [ew]
  refine makeSlice_own tB (E := bE) (Z := 0) zB rfl (by omega) (by simp only [maxLen]; omega) fun b4 H4 _ how hf => ⟨_, _, _, rfl, ?_⟩
  have hs4 : Sub H3 H4 := hf.sub (Sub.refl _) (Off.none _)
  refine (raw_ok (h3.mono hs4) (how.rd (E := bE) (sz := 1) (by omega) bLen) (by rw [List.length_append, List.length_append, bytesL_len]; simp; omega)).mono ?_
  rintro _ H5 ⟨rfl, h5⟩
  exact ⟨rfl, rfl, hfin h5 (by unfold nm; simp only [List.append_assoc])⟩
theorem set_next {A : List Int} {m : Nat} {x : Int} (i : Int) (hi : i.toNat = A.length) : (A ++ List.replicate (m + 1) 0).set i.toNat x = A ++ [x] ++ List.replicate m 0 := by
  rw [hi, List.set_append_right _ _ (Nat.le_refl _), Nat.sub_self, List.replicate_succ, List.set_cons_zero]
  simp
theorem refPutL_ok {H : PHeap} (s : ByteArray) : Triple Try.prog 20 #[.string s] H fun v H' => ∃ q c, ∃ b : Bool, v = .slice q 17 c ∧ (b = true ↔ NameP s) ∧ RdL H' bE 1 q 17 (nm (bif !b then nil_ else s)) ∧ Sub H H' := by
  refine refPutL.vc s H _ (makeSlice_own (n := 17) tB (E := bE) (Z := 0) zB rfl (by omega) (by simp only [maxLen]; omega) fun q H1 hq how hf => ⟨_, _, _, rfl, (refRight_ok s).mono ?_⟩)
  rintro _ H1 ⟨b, rfl, rfl, hb⟩
  have hs1 : Sub H H1 := hf.sub (Sub.refl _) (Off.none _)
  have hoq : Off H (at0 q) := off_at0 hq
  refine ⟨b, rfl, fun hbt => ?_, fun hbf => ?_⟩
  · subst hbt
    have hN := hb.1 rfl
    have h16 := hN.2.1
    have hob : ∀ {G : PHeap} {i : Int}, 0 ≤ i → i < 17 → Ob (at0 q ≠ none ∧ 0 ≤ i ∧ i < ((17 : Nat) : Int)) := fun h0 h1 => ⟨by simp [at0], h0, by omega⟩
    have eu : IntKind.u8.wrap (s.size : Int) = s.size := by simp [IntKind.wrap, IntKind.bits, IntKind.signed]; omega
    rw [eu]
    obtain ⟨H2, hw2, how2, hf2⟩ := Owns.set bLen how (by omega) (i := 0) (by omega) (by omega) (s.size : Int)
    have hset0 : (List.replicate 17 (0 : Int)).set (Int.toNat 0) (s.size : Int) = [(s.size : Int)] ++ List.replicate 16 0 := by simp [List.replicate_succ]
    rw [hset0] at how2
    refine ⟨hob (G := H1) (by omega) (by omega), H2, hw2, fun t H' => match t with | [.int _ i] => 0 ≤ i ∧ i ≤ s.size ∧ Sub H H' ∧ OwnL H' 5 bE 1 (at0 q) 17 17 ([(s.size : Int)] ++ (bytesL s).take i.toNat ++ List.replicate (16 - i.toNat) 0) | _ => False, fun t _ => match t with | [.int _ i] => (s.size - i).toNat | _ => 0, ⟨by omega, by omega, hf2.sub hs1 hoq, by simpa using how2⟩, ?_⟩
    rintro i H3 ⟨i0, i1, hs3, how3⟩
    obtain ⟨i, rfl⟩ : ∃ j : Nat, i = j := ⟨i.toNat, by omega⟩
    rw [Int.toNat_natCast] at how3
    refine ⟨fun hi => ?_, fun hi => ?_⟩
    · have hi' : i < s.size := by simpa using hi
      have e1 : IntKind.i64.wrap (1 + (i : Int)) = 1 + (i : Int) := wrap64 (by omega) (by omega)
      rw [e1, Pak.wrapS (i := (i : Int)) (by omega) (by omega)]
      obtain ⟨H4, hw4, how4, hf4⟩ := Owns.set bLen how3 (by omega) (i := 1 + (i : Int)) (by omega) (by omega) (byteAt s i)
      rw [show 16 - i = (15 - i) + 1 by omega, set_next (1 + (i : Int)) (by simp [bytesL_len]; omega)] at how4
      refine ⟨⟨by omega, by omega⟩, hob (G := H3) (by omega) (by omega), H4, hw4, ?_, ⟨by simp only; omega⟩⟩
      refine ⟨by omega, by omega, hf4.sub hs3 hoq, ?_⟩
      rw [show ((i : Int) + 1).toNat = i + 1 by omega, List.take_add_one, bytesL_at hi', show 16 - (i + 1) = 15 - i by omega]
      simpa using how4
    · have hi' : ¬ i < s.size := by simpa using hi
      rw [List.take_of_length_le (by rw [bytesL_len]; omega)] at how3
      refine ⟨at0 q, 17, true, rfl, hb, ?_, hs3⟩
      have : i = s.size := by omega
      rw [this] at how3
      exact how3.rd (E := bE) (sz := 1) (by omega) bLen
  · subst hbf
    refine ⟨at0 q, 17, false, rfl, hb, ?_, hs1⟩
    have : nm (bif !false then nil_ else s) = List.replicate 17 0 := by simp [nm, bytesL, ByteArray.size, List.replicate_succ]
    rw [this]
    exact how.rd (E := bE) (sz := 1) (by omega) bLen

/-! ### Read back -/
/-- The first byte, and the sixteen behind it. -/
def b0 (l : List Int) : Nat := (numOf (l.take 1)).toNat
def b16 (l : List Int) : List Int := (l.drop 1).take 16
def BackP (l : List Int) : Prop := 17 ≤ l.length ∧ b0 l ≤ 16 ∧ (∀ x ∈ (b16 l).drop (b0 l), x = 0) ∧ NameP (strOfNums ((b16 l).take (b0 l)))
/-- What is told of bytes. -/
structure GetS (l : List Int) (s : ByteArray) (ok : Bool) : Prop where
  iff : ok = true ↔ BackP l
  yes : ok = true → s = strOfNums ((b16 l).take (b0 l))
  no : ok = false → s = nil_
theorem GetS.same {l : List Int} {s t : ByteArray} {a b : Bool} (h : GetS l s a) (g : GetS l t b) : s = t ∧ a = b := by
  have e : a = b := by
    have := h.iff.trans g.iff.symm
    cases a <;> cases b <;> simp_all
  subst e
  refine ⟨?_, rfl⟩
  cases a with
  | true => rw [h.yes rfl, g.yes rfl]
  | false => rw [h.no rfl, g.no rfl]
theorem GetS.take {l : List Int} {s : ByteArray} {a : Bool} (h : GetS (l.take 17) s a) : GetS l s a := by
  have e0 : b0 (l.take 17) = b0 l := by unfold b0; rw [List.take_take]; rfl
  have e1 : b16 (l.take 17) = b16 l := by unfold b16; rw [List.drop_take, List.take_take]; rfl
  have e2 : BackP (l.take 17) ↔ BackP l := by
    have : 17 ≤ min 17 l.length ↔ 17 ≤ l.length := by omega
    unfold BackP
    rw [e0, e1, List.length_take, this]
  exact ⟨h.iff.trans e2, fun e => by rw [h.yes e, e0, e1], h.no⟩
theorem getS_nm {s t : ByteArray} {b ok : Bool} (hb : b = true ↔ NameP s) (h : GetS (nm (bif !b then nil_ else s)) t ok) : ok = b ∧ t = (bif !b then nil_ else s) := by
  cases b with
  | true =>
    have hN := hb.1 rfl
    have e0 : b0 (nm s) = s.size := by simp [b0, nm, numOf]
    have e1 : b16 (nm s) = bytesL s ++ List.replicate (16 - s.size) 0 := by
      unfold b16 nm
      rw [List.append_assoc, List.singleton_append, List.drop_one, List.tail_cons, List.take_of_length_le]
      rw [List.length_append, bytesL_len, List.length_replicate]
      have := hN.2.1
      omega
    have et : (b16 (nm s)).take (b0 (nm s)) = bytesL s := by rw [e0, e1, List.take_left' (bytesL_len s)]
    have hP : BackP (nm s) := by
      refine ⟨by rw [nm_len hN.2.1]; exact Nat.le_refl _, by rw [e0]; exact hN.2.1, fun x hx => ?_, by rw [et, strOf_bytes]; exact hN⟩
      rw [e0, e1, List.drop_left' (bytesL_len s)] at hx
      exact (List.mem_replicate.1 hx).2
    have h' : GetS (nm s) t ok := h
    have hok := h'.iff.2 hP
    refine ⟨hok, ?_⟩
    rw [h'.yes hok, et, strOf_bytes]
    rfl
  | false =>
    have h' : GetS (nm nil_) t ok := h
    have hok : ok = false := by
      cases ok with
      | false => rfl
      | true =>
        have hP := h'.iff.1 rfl
        have e0 : b0 (nm nil_) = 0 := by simp [b0, nm, numOf, ByteArray.size]
        have := hP.2.2.2.1
        rw [e0] at this
        simp [strOfNums, ByteArray.size] at this
    exact ⟨hok, h'.no hok⟩
theorem contB_ok {H : PHeap} {oa : Option Addr} {n c : Nat} {l : List Int} (hl : RdL H bE 1 oa n l) (hn : n ≤ 1000) :
    Triple Try.prog 34 #[.slice oa n c, .func (.func 35) #[] #[]] H fun v H' => ∃ b, v = .bool b ∧ H' = H ∧ (b = false ↔ ∀ x ∈ l, x = 0) := by
  have hll := hl.len
  have hidx : Triple Try.prog 41 #[.slice oa n c, .func (.func 35) #[] #[]] H fun v H' => ∃ i : Int, v = .int .i64 i ∧ H' = H ∧ (decide (i ≥ 0) = false ↔ ∀ x ∈ l, x = 0) := by
    refine idxB.vc oa n c _ H _ ⟨fun t H' => match t with | [.int _ i] => 0 ≤ i ∧ i ≤ n ∧ H' = H ∧ ∀ x ∈ l.take i.toNat, x = 0 | _ => False, fun t _ => match t with | [.int _ i] => (n - i).toNat | _ => 0, ⟨by omega, by omega, rfl, by simp⟩, ?_⟩
    rintro i H1 ⟨i0, i1, rfl, hz⟩
    obtain ⟨i, rfl⟩ : ∃ j : Nat, i = j := ⟨i.toNat, by omega⟩
    rw [Int.toNat_natCast] at hz
    refine ⟨fun hi => ?_, fun hi => ?_⟩
    · have hi' : i < n := by simpa using hi
      obtain ⟨y, hy, hyr⟩ := hl.ex (i := (i : Int)) (by omega) (by omega)
      rw [Int.toNat_natCast] at hy
      refine ⟨hl.ob (by omega) (by omega), y, hyr, CallY.fn (by kernel_rfl) (getL1.vc y H1 _ ⟨_, rfl, fun he => ⟨_, rfl, rfl, ?_⟩, fun he => ?_⟩)⟩
      · have hne : y ≠ 0 := by simpa using he
        constructor
        · intro h; simp at h
        · intro h; exact absurd (h y (List.mem_of_getElem? hy)) hne
      · have h0 : y = 0 := by simpa using he
        rw [Pak.wrapS (by omega) (by omega)]
        refine ⟨⟨by omega, by omega, rfl, fun x hx => ?_⟩, ⟨by simp only; omega⟩⟩
        rw [show ((i : Int) + 1).toNat = i + 1 by omega, List.take_add_one, hy] at hx
        rcases List.mem_append.1 hx with hx | hx
        · exact hz x hx
        · simp at hx; omega
    · have : ¬ i < n := by simpa using hi
      rw [List.take_of_length_le (by omega)] at hz
      exact ⟨_, rfl, rfl, ⟨fun _ => hz, fun _ => by simp⟩⟩
  refine contB.vc oa n c _ H _ (hidx.mono ?_)
  rintro _ H' ⟨i, rfl, rfl, he⟩
  exact ⟨i, rfl, _, rfl, rfl, he⟩
theorem getL_ok {F H : PHeap} {k : Nat} {l : List Int} (h : RrS F H k l false) (hr : ∀ x ∈ l, 0 ≤ x ∧ x ≤ 255) :
    Triple Try.prog 21 #[.pointer (at0 k)] H fun v H' => ∃ s ok, v = .tuple #[.string s, .bool ok] ∧ GetS l s ok ∧ ∃ l' bad, RrS F H' k l' bad ∧ (17 ≤ l.length → l' = l.drop 17) := by
  have hn := rNum_ok (w := 1) h (by omega) (by omega) hr
  refine getL.vc (at0 k) H _ (hn.mono ?_)
  rintro v H1 ⟨hq1, hA, hB⟩
  by_cases hl1 : l.length < 1
  · obtain ⟨rfl, h1⟩ := hA (.inr hl1)
    refine ⟨0, rfl, (rRaw_ok (m := 16) h1 (by omega)).mono ?_⟩
    rintro _ H2 ⟨b, n, c, rfl, hnc, _, hA2, _⟩
    obtain ⟨rfl, h2⟩ := hA2 (.inl rfl)
    refine ⟨b, 0, c, rfl, (good_ok h2).mono ?_⟩
    rintro _ H2 ⟨rfl, rfl⟩
    refine ⟨_, rfl, fun _ => ⟨_, _, rfl, ⟨?_, fun e => (by cases e), fun _ => rfl⟩, _, _, h2, fun e => by omega⟩, fun e => by simp at e⟩
    simp only [Bool.false_eq_true, false_iff]
    exact fun hP => by have := hP.1; omega
  · obtain ⟨rfl, h1⟩ := hB rfl (by omega)
    have e0 := numOf_range (l.take 1) fun x hx => hr x (List.mem_of_mem_take hx)
    refine ⟨_, rfl, (rRaw_ok (m := 16) h1 (by omega)).mono ?_⟩
    rintro _ H2 ⟨b, n, c, rfl, hnc, _, hA2, hB2⟩
    by_cases hl2 : (l.drop 1).length < 16
    · obtain ⟨rfl, h2⟩ := hA2 (.inr hl2)
      refine ⟨b, 0, c, rfl, (good_ok h2).mono ?_⟩
      rintro _ H2 ⟨rfl, rfl⟩
      rw [List.length_drop] at hl2
      refine ⟨_, rfl, fun _ => ⟨_, _, rfl, ⟨?_, fun e => (by cases e), fun _ => rfl⟩, _, _, h2, fun e => by omega⟩, fun e => by simp at e⟩
      simp only [Bool.false_eq_true, false_iff]
      exact fun hP => by have := hP.1; omega
    · obtain ⟨rfl, hrd, h2⟩ := hB2 rfl (by omega)
      have h17 : 17 ≤ l.length := by rw [List.length_drop] at hl2; omega
      have hdr : (l.drop 1).drop 16 = l.drop 17 := by rw [List.drop_drop]
      rw [hdr] at h2
      have eb : ((b0 l : Nat) : Int) = numOf (l.take 1) := by unfold b0; omega
      have hrd' : RdL H2 bE 1 b 16 (b16 l) := hrd
      refine ⟨b, 16, c, rfl, (good_ok h2).mono ?_⟩
      rintro _ H2 ⟨rfl, rfl⟩
      rw [← eb]
      refine ⟨_, rfl, fun hbig => ?_, fun hsm => ?_⟩
      · have hb : 16 < b0 l := by simp at hbig; omega
        refine ⟨_, _, rfl, ⟨?_, fun e => (by cases e), fun _ => rfl⟩, _, _, h2, fun _ => rfl⟩
        simp only [Bool.false_eq_true, false_iff]
        exact fun hP => by have := hP.2.1; omega
      · have hb : b0 l ≤ 16 := by simp at hsm; omega
        simp only [slA_zero, Int.toNat_natCast, Int.toNat_zero, Nat.sub_zero]
        refine ⟨⟨by omega, by omega, by omega⟩, bytes_str Try.underlying34 Try.underlying5 Try.underlying9 (hrd'.take hb) ⟨_, rfl, ⟨by omega, by omega, by omega⟩, (contB_ok (hrd'.drop hb hnc) (by omega)).mono ?_⟩⟩
        rintro _ H2 ⟨bz, rfl, rfl, hz⟩
        refine ⟨bz, rfl, fun hz0 => (right_ok _).mono ?_, fun hz1 => ?_⟩
        · rintro _ H2 ⟨bn, rfl, rfl, hbn⟩
          refine ⟨bn, rfl, fun e => ?_, fun e => ?_⟩
          · have hb' : bn = false := by simpa using e
            subst hb'
            refine ⟨_, _, rfl, ⟨?_, fun e => (by cases e), fun _ => rfl⟩, _, _, h2, fun _ => rfl⟩
            simp only [Bool.false_eq_true, false_iff] at hbn ⊢
            exact fun hP => hbn hP.2.2.2
          · have hb' : bn = true := by simpa using e
            subst hb'
            refine ⟨_, _, rfl, ⟨?_, fun _ => rfl, fun e => (by cases e)⟩, _, _, h2, fun _ => rfl⟩
            simp only [true_iff]
            exact ⟨h17, hb, hz.1 hz0, hbn.1 rfl⟩
        · have hb' : bz = true := by simpa using hz1
          subst hb'
          refine ⟨_, _, rfl, ⟨?_, fun e => (by cases e), fun _ => rfl⟩, _, _, h2, fun _ => rfl⟩
          simp only [Bool.false_eq_true, false_iff]
          exact fun hP => by have := hz.2 hP.2.2.1; cases this
theorem refGetL_ok {H : PHeap} {oa : Option Addr} {c : Nat} {l : List Int} (hl : RdL H bE 1 oa 17 l) (hc : 17 ≤ c) (hr : ∀ x ∈ l, 0 ≤ x ∧ x ≤ 255) :
    Triple Try.prog 23 #[.slice oa 17 c] H fun v H' => ∃ s ok, v = .tuple #[.string s, .bool ok] ∧ GetS l s ok ∧ H' = H := by
  have hll := hl.len
  obtain ⟨y, hy, hyr⟩ := hl.ex (i := 0) (by omega) (by omega)
  have hy0 := hr y (List.mem_of_getElem? hy)
  obtain ⟨n, rfl⟩ : ∃ n : Nat, y = n := ⟨y.toNat, by omega⟩
  obtain ⟨t, rfl⟩ : ∃ t, l = (n : Int) :: t := by
    cases l with
    | nil => simp at hll
    | cons z t => simp at hy; exact ⟨t, by rw [hy]⟩
  have ht : t.length = 16 := by simpa using hll
  have e0 : b0 ((n : Int) :: t) = n := by simp [b0, numOf]
  have e1 : b16 ((n : Int) :: t) = t := by
    unfold b16
    rw [List.drop_one, List.tail_cons, List.take_of_length_le (by omega)]
  have ew : IntKind.i64.wrap (n : Int) = n := wrap64 (by omega) (by omega)
  have ew1 : IntKind.i64.wrap (1 + (n : Int)) = ((1 + n : Nat) : Int) := by rw [show 1 + (n : Int) = ((1 + n : Nat) : Int) by omega]; exact wrap64 (by omega) (by omega)
  have hd : ∀ {G : PHeap}, G = H → n ≤ 16 → RdL G bE 1 (slA oa 1 c 1) ((1 + n : Nat) - 1) (t.take n) := fun {G} e hn => by
    subst e
    have := (hl.drop (i := 1) (by omega) hc).take (i := n) (by omega)
    rw [List.drop_one, List.tail_cons] at this
    rw [show 1 + n - 1 = n by omega]
    exact this
  refine refGetL.vc oa 17 c H _ ⟨hl.ob (by omega) (by omega), n, hyr, fun hs => ?_, fun hbig => ?_⟩
  · rw [ew] at hs
    have hn : n ≤ 16 := by simp at hs; omega
    rw [ew, ew1]
    have o1 : Ob ((0 : Int) ≤ 1 ∧ (1 : Int) ≤ ((1 + n : Nat) : Int) ∧ ((1 + n : Nat) : Int) ≤ (c : Int)) := ⟨by omega, by omega, by omega⟩
    simp only [Int.toNat_natCast, show Int.toNat 1 = 1 from rfl]
    refine ⟨o1, bytes_str Try.underlying34 Try.underlying5 Try.underlying9 (hd rfl hn) ⟨_, rfl, (refRight_ok _).mono ?_⟩⟩
    rintro _ H ⟨bn, rfl, rfl, hbn⟩
    refine ⟨bn, rfl, fun e => ?_, fun e => ?_⟩
    · have hb' : bn = false := by simpa using e
      subst hb'
      refine ⟨_, _, rfl, ⟨?_, fun e => (by cases e), fun _ => rfl⟩, rfl⟩
      simp only [Bool.false_eq_true, false_iff] at hbn ⊢
      exact fun hP => hbn (by have := hP.2.2.2; rwa [e0, e1] at this)
    · have hb' : bn = true := by simpa using e
      subst hb'
      refine ⟨fun q H' => match q with | [.int _ i] => 1 + (n : Int) ≤ i ∧ i ≤ 17 ∧ H' = H ∧ ∀ x ∈ (t.take (i.toNat - 1)).drop n, x = 0 | _ => False, fun q _ => match q with | [.int _ i] => (17 - i).toNat | _ => 0, ⟨by omega, by omega, rfl, fun x hx => ?_⟩, ?_⟩
      · rw [show (((1 + n : Nat) : Int)).toNat - 1 = n by omega, List.drop_of_length_le (by rw [List.length_take]; omega)] at hx
        simp at hx
      rintro i H1 ⟨i0, i1, rfl, hz⟩
      obtain ⟨i, rfl⟩ : ∃ j : Nat, i = j + 1 := ⟨(i - 1).toNat, by omega⟩
      rw [show ((i : Int) + 1).toNat - 1 = i by omega] at hz
      refine ⟨fun hi => ?_, fun hi => ?_⟩
      · have hi' : i < 16 := by simp at hi; omega
        obtain ⟨z, hz1, hzr⟩ := hl.ex (i := (i : Int) + 1) (by omega) (by omega)
        rw [show ((i : Int) + 1).toNat = i + 1 by omega, List.getElem?_cons_succ] at hz1
        refine ⟨hl.ob (by omega) (by omega), z, hzr, fun hne => ?_, fun heq => ?_⟩
        · have hne' : z ≠ 0 := by simpa using hne
          refine ⟨_, _, rfl, ⟨?_, fun e => (by cases e), fun _ => rfl⟩, rfl⟩
          simp only [Bool.false_eq_true, false_iff]
          intro hP
          refine hne' (hP.2.2.1 z ?_)
          rw [e0, e1]
          refine List.mem_of_getElem? (i := i - n) ?_
          rw [List.getElem?_drop, show n + (i - n) = i by omega]
          exact hz1
        · have h0 : z = 0 := by simpa using heq
          rw [Pak.wrapS (by omega) (by omega)]
          refine ⟨⟨by omega, by omega, rfl, fun x hx => ?_⟩, ⟨by simp only; omega⟩⟩
          rw [show ((i : Int) + 1 + 1).toNat - 1 = i + 1 by omega, List.take_add_one, hz1, List.drop_append] at hx
          rcases List.mem_append.1 hx with hx | hx
          · exact hz x hx
          · have := List.mem_of_mem_drop hx
            simp at this
            omega
      · have hi' : i = 16 := by simp at hi; omega
        subst hi'
        rw [List.take_of_length_le (by omega)] at hz
        refine ⟨o1, bytes_str Try.underlying34 Try.underlying5 Try.underlying9 (hd rfl hn) ⟨_, rfl, _, _, rfl, ⟨?_, fun _ => by rw [e0, e1], fun e => (by cases e)⟩, rfl⟩⟩
        simp only [true_iff]
        exact ⟨by rw [hll]; omega, by rw [e0]; exact hn, by rw [e0, e1]; exact hz, by rw [e0, e1]; exact hbn.1 rfl⟩
  · rw [ew] at hbig
    have hn : 16 < n := by simp at hbig; omega
    refine ⟨_, _, rfl, ⟨?_, fun e => (by cases e), fun _ => rfl⟩, rfl⟩
    simp only [Bool.false_eq_true, false_iff]
    exact fun hP => by have := hP.2.1; rw [e0] at this; omega
theorem sameB_ok {H : PHeap} {oa ob : Option Addr} {n c c2 : Nat} {l : List Int} (h1 : RdL H bE 1 oa n l) (h2 : RdL H bE 1 ob n l) (hn : n ≤ 1000) :
    Triple Try.prog 18 #[.slice oa n c, .slice ob n c2] H fun v H' => v = .bool true ∧ H' = H := by
  refine sameB.vc oa n c ob n c2 H _ ⟨fun h => by simp at h, fun _ => ⟨fun l H' => match l with | [.int _ i] => 0 ≤ i ∧ i ≤ n ∧ H' = H | _ => False, fun l _ => match l with | [.int _ i] => (n - i).toNat | _ => 0, ⟨by omega, by omega, rfl⟩, ?_⟩⟩
  rintro i H1 ⟨i0, i1, rfl⟩
  refine ⟨fun hi => ?_, fun _ => ⟨rfl, rfl⟩⟩
  have hi' : i < n := by simpa using hi
  obtain ⟨x, hx, hxr⟩ := h1.ex i0 hi'
  refine ⟨_, Sub.refl _, h1.ob i0 hi', x, hxr, h2.ob i0 hi', x, h2.at i0 hx, fun h => by simp at h, fun _ => ?_⟩
  rw [Pak.wrapS i0 (by omega)]
  exact ⟨⟨by omega, by omega, rfl⟩, ⟨by simp only; omega⟩⟩
theorem back_ok {H : PHeap} {oa : Option Addr} {n c : Nat} {l : List Int} {s : ByteArray} (hl : RdL H bE 1 oa n l) (hc : n ≤ c) (hr : ∀ x ∈ l, 0 ≤ x ∧ x ≤ 255) :
    Triple Try.prog 5 #[.string s, .slice oa n c] H fun v H' => v = .bool true ∧ Sub H H' := by
  have alive : ∀ {H1 : PHeap}, Sub H H1 → Triple Try.prog 6 #[] H1 fun v H' => ∃ b, v = Value.bool b ∧ Value.bool b = Value.bool true ∧ Sub H H' := fun hs => (alive_ok _).mono fun v H' ⟨h1, h2⟩ => ⟨true, h1, rfl, hs.trans h2⟩
  have hll := hl.len
  refine lawBack.vc s oa n c H _ ⟨fun _ => alive (Sub.refl _), fun hsz => fun k hk => ?_⟩
  have hsz' : s.size ≤ 60 ∧ n ≤ 60 := by
    simp only [Bool.cond_eq_ite] at hsz
    grind
  refine (putL_ok (s := s) (WrS.new H hk) (by simp)).mono ?_
  rintro _ H1 ⟨rfl, b, hb, h1⟩
  rw [List.nil_append] at h1
  have ht16 : (bif !b then nil_ else s).size ≤ 16 := by
    cases b with
    | true => exact (hb.1 rfl).2.1
    | false => simp [ByteArray.size]
  have hnl := nm_len ht16
  refine ⟨rfl, (bytes_ok h1 (by omega)).mono ?_⟩
  rintro _ H2 ⟨b2, n2, c2, rfl, g2, s2, _⟩
  refine ⟨b2, n2, c2, rfl, (refPutL_ok s).mono ?_⟩
  rintro _ H3 ⟨q3, c3, b3, rfl, hb3, g3, s3⟩
  have hbb : b3 = b := by
    have := hb3.trans hb.symm
    cases b <;> cases b3 <;> simp_all
  subst hbb
  have g2r := (g2.rd (E := bE) (sz := 1) (by omega) bLen).mono s3
  have hn2 : n2 = 17 := by rw [← g2r.len, hnl]
  subst hn2
  refine ⟨q3, 17, c3, rfl, (sameB_ok g2r g3 (by omega)).mono ?_⟩
  rintro _ H3 ⟨rfl, rfl⟩
  refine ⟨true, rfl, fun e => by simp at e, fun _ => ?_⟩
  have h1' := h1.mono (s2.trans s3)
  refine (bytes_ok h1' (by omega)).mono ?_
  rintro _ H4 ⟨b4, n4, c4, rfl, g4, s4, _⟩
  refine ⟨b4, n4, c4, rfl, (read_ok (g4.rd (E := bE) (sz := 1) (by omega) bLen) g4.le).mono ?_⟩
  rintro _ H5 ⟨k5, rfl, h5⟩
  refine ⟨at0 k5, rfl, (getL_ok h5 (nm_range ht16)).mono ?_⟩
  rintro _ H6 ⟨t, ok, rfl, hG, l6, bad6, h6, _⟩
  obtain ⟨rfl, rfl⟩ := getS_nm hb hG
  have hs6 : Sub H H6 := h1'.sub.trans (s4.trans h6.sub)
  refine ⟨_, ok, rfl, (refRight_ok s).mono ?_⟩
  rintro _ H6 ⟨b7, rfl, rfl, hb7⟩
  have hbb : b7 = ok := by
    have := hb7.trans hb.symm
    cases b7 <;> cases ok <;> simp_all
  subst hbb
  refine ⟨b7, rfl, fun e => ?_, fun _ => ?_⟩
  · cases b7 with
    | true => simp [eqS_iff.2 rfl] at e
    | false => simp [eqS_iff.2 rfl] at e
  have hl6 := hl.mono hs6
  refine (read_ok hl6 hc).mono ?_
  rintro _ H8 ⟨k8, rfl, h8⟩
  refine ⟨at0 k8, rfl, (getL_ok h8 hr).mono ?_⟩
  rintro _ H9 ⟨x, okx, rfl, hGx, l9, bad9, h9, hl9⟩
  have hs9 : Sub H H9 := hs6.trans h9.sub
  refine ⟨x, okx, rfl, fun hlt => ?_, fun hge => ?_⟩
  · have hlt' : n < 17 := by simp at hlt; omega
    have hok : okx = false := by
      cases okx with
      | false => rfl
      | true => have := (hGx.iff.1 rfl).1; omega
    subst hok
    have hx := hGx.no rfl
    subst hx
    exact ⟨fun _ => ⟨fun _ => alive hs9, fun e => by simp at e⟩, fun e => by rw [eqS_iff.2 rfl] at e; simp at e⟩
  · have hge' : 17 ≤ n := by simp at hge; omega
    simp only [slA_zero, show Int.toNat 17 = 17 from rfl, Int.toNat_zero, Nat.sub_zero]
    have hl9' := (hl.mono hs9).take hge'
    refine ⟨⟨by omega, by omega, by omega⟩, (refGetL_ok hl9' (by omega) fun z hz => hr z (List.mem_of_mem_take hz)).mono ?_⟩
    rintro _ H9 ⟨y, oky, rfl, hGy, rfl⟩
    obtain ⟨rfl, rfl⟩ := hGx.same hGy.take
    refine ⟨x, okx, rfl, fun _ => ⟨fun _ => (left_ok h9).mono ?_, fun e => by simp at e⟩, fun e => by rw [eqS_iff.2 rfl] at e; simp at e⟩
    rintro _ H9 ⟨rfl, rfl⟩
    have e1 : IntKind.i64.wrap ((n : Int) - 17) = ((n - 17 : Nat) : Int) := by rw [show (n : Int) - 17 = ((n - 17 : Nat) : Int) by omega]; exact wrap64 (by omega) (by omega)
    have e2 : l9.length = n - 17 := by rw [hl9 (by omega), List.length_drop, hll]
    exact ⟨_, rfl, fun _ => alive hs9, fun e => by rw [e1, e2] at e; simp at e⟩
end Go.Lab
