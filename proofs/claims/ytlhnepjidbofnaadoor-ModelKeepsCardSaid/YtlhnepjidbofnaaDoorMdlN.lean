/- Names, and rising lists of texts: the contracts. -/
import Derived.Test.YtlhnepjidbofnaaDoorMdlL
import Derived.Test.YtlhnepjidbofnaaDoorTxtP
import Derived.Test.YtlhnepjidbofnaaDoorVcMdlR
namespace Go.Mdl
open Go.Vx Go.Vc Go.Proofs Go.Txt

abbrev sE := strE
theorem tStr : ElemT Tryd.prog 27 9 1 16 := .of (by kernel_rfl)
theorem sLen (x : ByteArray) : (sE x).length = 1 := rfl
theorem sOne (x : ByteArray) : ∀ u ∈ sE x, u.oneCell' = true := fun u hu => by simp [strE] at hu; subst hu; rfl
theorem wrapS {i : Int} (h0 : 0 ≤ i) (h1 : i ≤ 1000000) : IntKind.i64.wrap (i + 1) = i + 1 := wrap64 (by omega) (by omega)

theorem lessS_cases {s t : ByteArray} {i : Nat} (h : s.toList.take i = t.toList.take i) (h1 : i ≤ s.size) (h2 : i ≤ t.size) :
    lessS s t = if i < s.size ∧ i < t.size then (if byteAt s i = byteAt t i then Op.bytesLess (s.toList.drop (i + 1)) (t.toList.drop (i + 1)) else decide (byteAt s i < byteAt t i)) else decide (s.size < t.size) := by
  unfold lessS
  rw [bytesLess_at _ _ i h (by rw [size_toList]; exact h1) (by rw [size_toList]; exact h2)]
  have hs := size_toList s
  have ht := size_toList t
  split
  · rename_i hh
    obtain ⟨a, ha, ea⟩ := byteAt_get hh.1
    obtain ⟨b, hb, eb⟩ := byteAt_get hh.2
    have da : s.toList.drop i = a :: s.toList.drop (i + 1) := by rw [List.drop_eq_getElem?_toList_append, ha]; rfl
    have db : t.toList.drop i = b :: t.toList.drop (i + 1) := by rw [List.drop_eq_getElem?_toList_append, hb]; rfl
    rw [da, db, ea, eb]
    simp only [Op.bytesLess]
    by_cases e : a = b
    · subst e; simp
    · have e' : ¬ (a.toNat : Int) = b.toNat := fun h => e (UInt8.toNat.inj (by omega))
      rw [if_neg e']
      have : (a < b) ↔ ((a.toNat : Int) < b.toNat) := by rw [UInt8.lt_iff_toNat_lt]; omega
      simp [e, this]
  · rename_i hh
    by_cases h3 : i < s.size
    · have : t.toList.drop i = [] := List.drop_of_length_le (by omega)
      rw [this, bytesLess_nil]
      have : ¬ s.size < t.size := by omega
      simp [this]
    · have : s.toList.drop i = [] := List.drop_of_length_le (by omega)
      rw [this]
      by_cases h4 : i < t.size
      · have h5 : s.size < t.size := by omega
        obtain ⟨b, hb, eb⟩ := byteAt_get h4
        have db : t.toList.drop i = b :: t.toList.drop (i + 1) := by rw [List.drop_eq_getElem?_toList_append, hb]; rfl
        rw [db]
        simp [Op.bytesLess, h5]
      · have : t.toList.drop i = [] := List.drop_of_length_le (by omega)
        rw [this]
        have : ¬ s.size < t.size := by omega
        simp [Op.bytesLess, this]
theorem refLessS_ok {s t : ByteArray} (hs : s.size ≤ 1000000) : Pure Tryd.prog 30 #[.string s, .string t] (.bool (lessS s t)) := fun H => by
  refine refLessS.vc s t H _ ⟨fun l H' => match l with | [.int _ i] => 0 ≤ i ∧ i ≤ s.size ∧ i ≤ t.size ∧ s.toList.take i.toNat = t.toList.take i.toNat ∧ H' = H | _ => False, fun l _ => match l with | [.int _ i] => (s.size - i).toNat | _ => 0, ⟨by omega, by omega, by omega, rfl, rfl⟩, ?_⟩
  rintro i H1 ⟨h0, h1, h2, h3, rfl⟩
  obtain ⟨i, rfl⟩ : ∃ j : Nat, i = j := ⟨i.toNat, by omega⟩
  rw [Int.toNat_natCast] at h3
  have key := lessS_cases h3 (by omega) (by omega)
  refine ⟨fun hc => ?_, fun hc => ?_⟩
  · have hc' : i < s.size ∧ i < t.size := by
      simp only [Bool.cond_eq_ite] at hc
      grind
    rw [if_pos hc'] at key
    have o1 : Ob (0 ≤ (i : Int) ∧ (i : Int) < s.size) := ⟨by omega, by omega⟩
    have o2 : Ob (0 ≤ (i : Int) ∧ (i : Int) < t.size) := ⟨by omega, by omega⟩
    refine ⟨_, Sub.refl _, o1, o2, fun hne => ⟨_, Sub.refl _, o1, o2, ?_, rfl⟩, fun he => ?_⟩
    · have hne' : ¬ byteAt s i = byteAt t i := by simpa using hne
      rw [key, if_neg hne']
    · have he' : byteAt s i = byteAt t i := by simpa using he
      rw [wrapS (by omega) (by omega)]
      refine ⟨⟨by omega, by omega, by omega, ?_, rfl⟩, ⟨by simp only; omega⟩⟩
      rw [show ((i : Int) + 1).toNat = i + 1 by omega, List.take_add_one, List.take_add_one, h3]
      obtain ⟨a, ha, ea⟩ := byteAt_get hc'.1
      obtain ⟨b, hb, eb⟩ := byteAt_get hc'.2
      rw [ea, eb] at he'
      rw [ha, hb, UInt8.toNat.inj (show a.toNat = b.toNat by omega)]
  · have hc' : ¬ (i < s.size ∧ i < t.size) := by
      simp only [Bool.cond_eq_ite] at hc
      grind
    rw [if_neg hc'] at key
    refine ⟨?_, rfl⟩
    rw [key]
    congr 1
    exact decide_eq_decide.2 (by omega)
theorem add_tail {H : PHeap} {oa : Option Addr} {n c i : Nat} {l : List ByteArray} {s : ByteArray} {K : Value → PHeap → Prop} (hl : RdL H sE 1 oa n l) (hi : i ≤ n) (hc : n ≤ c) (hn : n ≤ 100000)
    (hK : ∀ b m k H', OwnL H' 9 sE 1 b m k (l.take i ++ s :: l.drop i) → Off H b → Sub H H' → K (.slice b m k) H') :
    ∀ (k14 : Nat), H k14 = none → Ob ((0 : Int) ≤ 0 ∧ 0 ≤ (i : Int) ∧ (i : Int) ≤ (c : Int)) ∧
      EvV Tryd.prog (Builtin.append_ #[27, 27] 27 #[.slice (at0 k14) 0 0, .slice (slA oa 0 c 1) ((i : Int).toNat - Int.toNat 0) (c - Int.toNat 0)]) (H.upd k14 (.cells #[] 9)) fun v15 H16 =>
        ∃ a17 k18 k19, v15 = Value.slice a17 k18 k19 ∧ ∀ (k20 : Nat), H16 k20 = none →
          EvV Tryd.prog (Builtin.append_ #[27, 27] 27 #[.slice a17 k18 k19, .slice (at0 k20) 1 1]) (H16.upd k20 (.cells #[.string s] 9)) fun v21 H22 =>
            ∃ a23 k24 k25, v21 = Value.slice a23 k24 k25 ∧ Ob (0 ≤ (i : Int) ∧ (i : Int) ≤ (n : Int) ∧ (n : Int) ≤ (c : Int)) ∧
              EvV Tryd.prog (Builtin.append_ #[27, 27] 27 #[.slice a23 k24 k25, .slice (slA oa i c 1) ((n : Int).toNat - (i : Int).toNat) (c - (i : Int).toNat)]) H22 fun v26 H27 =>
                ∃ a28 k29 k30, v26 = Value.slice a28 k29 k30 ∧ K (.slice a28 k29 k30) H27 := by
  intro k1 hk1
  refine ⟨⟨by omega, by omega, by omega⟩, ?_⟩
  simp only [slA_zero, Int.toNat_natCast, Int.toNat_zero, Nat.sub_zero]
  have hs1 := Sub.upd (.cells #[] 9 (0, 0)) hk1
  have ho1 := off_at0 hk1
  refine append_rd tStr (E := sE) (l := []) sLen (Owns.empty H k1 _ 1) ((hl.take hi).mono hs1) sOne (by simp [maxLen]; omega) (by omega) ?_
  intro b2 c2 H2 g2 hf2 hfr2
  rw [Nat.zero_add] at g2 ⊢
  rw [List.nil_append] at g2
  refine ⟨b2, i, c2, rfl, fun k3 hk3 => ?_⟩
  have hs2 := hf2.sub hs1 ho1
  have ho2 := hfr2.off hs1 ho1
  refine append_one tStr hk3 (E := sE) (x := s) sLen g2 rfl (sOne s) (by simp [maxLen]; omega) (by omega) ?_
  intro b4 c4 H4 g4 hf4 hfr4 _
  refine ⟨b4, i + 1, c4, rfl, ⟨by omega, by omega, by omega⟩, ?_⟩
  have hs4 := hf4.sub hs2 ho2
  have ho4 := hfr4.off hs2 ho2
  refine append_rd tStr (E := sE) sLen g4 ((hl.drop hi hc).mono hs4) sOne (by simp [maxLen]; omega) (by omega) ?_
  intro b5 c5 H5 g5 hf5 hfr5
  rw [List.append_assoc] at g5
  exact ⟨b5, _, c5, rfl, hK _ _ _ _ g5 (hfr5.off hs4 ho4) (hf5.sub hs4 ho4)⟩
theorem tw_len {l : List ByteArray} {s : ByteArray} {i : Nat} (h1 : ∀ j x, j < i → l[j]? = some x → lessS x s = true) (h2 : i ≤ l.length) (h3 : ∀ x, l[i]? = some x → lessS x s = false) : (l.takeWhile fun t => lessS t s).length = i := by
  have ha : ∀ x ∈ l.take i, lessS x s = true := fun x hx => by
    obtain ⟨j, hj⟩ := List.getElem?_of_mem hx
    rw [List.getElem?_take] at hj
    split at hj
    · exact h1 j x (by assumption) hj
    · cases hj
  by_cases h : i < l.length
  · have hd : l = l.take i ++ l[i] :: l.drop (i + 1) := by rw [List.getElem_cons_drop, List.take_append_drop]
    have := takeWhile_stop (p := fun t => lessS t s) (h3 _ (List.getElem?_eq_getElem h)) ha (l.drop (i + 1))
    rw [hd, this, List.length_take]
    omega
  · rw [List.take_of_length_le (by omega)] at ha
    rw [takeWhile_all ha]
    omega
def AddQ (H : PHeap) (oa : Option Addr) (n c : Nat) (l : List ByteArray) (s : ByteArray) (v : Value) (H' : PHeap) : Prop := ∃ b m k, v = .slice b m k ∧ RdL H' sE 1 b m (addL l s) ∧ m ≤ k ∧ Sub H H' ∧ ((OwnL H' 9 sE 1 b m k (addL l s) ∧ Off H b) ∨ (b = oa ∧ m = n ∧ k = c ∧ addL l s = l))
theorem add_ok {H : PHeap} {oa : Option Addr} {n c : Nat} {l : List ByteArray} {s : ByteArray} (hl : RdL H sE 1 oa n l) (hc : n ≤ c) (hn : n ≤ 100000) (hS : ∀ x ∈ l, x.size ≤ 1000000) :
    Triple Tryd.prog 17 #[.slice oa n c, .string s] H (AddQ H oa n c l s) := by
  have hll := hl.len
  refine refAdd.vc oa n c s H _ ⟨fun t H' => match t with | [.int _ i] => 0 ≤ i ∧ i ≤ n ∧ H' = H ∧ (∀ j x, j < i.toNat → l[j]? = some x → lessS x s = true) | _ => False, fun t _ => match t with | [.int _ i] => (n - i).toNat | _ => 0, ⟨by omega, by omega, rfl, fun j x hj => by simp at hj⟩, ?_⟩
  rintro i H1 ⟨i0, i1, rfl, hlt⟩
  obtain ⟨i, rfl⟩ : ∃ j : Nat, i = j := ⟨i.toNat, by omega⟩
  rw [Int.toNat_natCast] at hlt
  refine ⟨fun hi => ?_, fun hi => ?_⟩
  · have hi' : i < n := by simpa using hi
    obtain ⟨x, hx, hxr⟩ := hl.ex (i := (i : Int)) (by omega) (by omega)
    rw [Int.toNat_natCast] at hx
    refine ⟨hl.ob (by omega) (by omega), x, hxr, (refLessS_ok (hS x (List.mem_of_getElem? hx))).use ⟨_, rfl, fun hb => ?_, fun hb => ?_⟩⟩
    · rw [wrapS (by omega) (by omega)]
      refine ⟨⟨by omega, by omega, rfl, fun j y hj hy => ?_⟩, ⟨by simp only; omega⟩⟩
      by_cases e : j = i
      · subst e
        rw [hx] at hy
        cases hy
        exact hb
      · exact hlt j y (by omega) hy
    · have htw := tw_len hlt (by omega) (fun y hy => by rw [hx] at hy; cases hy; exact hb)
      refine ⟨fun _ => ⟨hl.ob (by omega) (by omega), x, hxr, fun he => ?_, fun he => ?_⟩, fun h => by rw [hi] at h; simp at h⟩
      · have : addL l s = l := by unfold addL; rw [htw, hx]; simp [he]
        exact ⟨oa, n, c, rfl, by rw [this]; exact hl, hc, Sub.refl _, .inr ⟨rfl, rfl, rfl, this⟩⟩
      · refine add_tail (i := i) (K := AddQ H1 oa n c l s) hl (by omega) hc hn fun b m k H' g1 g2 g3 => ?_
        have : addL l s = l.take i ++ s :: l.drop i := by unfold addL; rw [htw, hx]; simp [he]
        rw [← this] at g1
        exact ⟨b, m, k, rfl, g1.rd (E := sE) (sz := 1) (by omega) sLen, g1.le, g3, .inl ⟨g1, g2⟩⟩
  · have hi' : i = n := by
      have : ¬ i < n := by simpa using hi
      omega
    refine ⟨fun h => by rw [hi] at h; simp at h, fun _ => ?_⟩
    have htw := tw_len (s := s) hlt (by omega) (fun y hy => by have := (List.getElem?_eq_some_iff.1 hy).1; omega)
    refine add_tail (i := i) (K := AddQ H1 oa n c l s) hl (by omega) hc hn fun b m k H' g1 g2 g3 => ?_
    have : addL l s = l.take i ++ s :: l.drop i := by unfold addL; rw [htw, List.getElem?_eq_none (by omega)]; simp
    rw [← this] at g1
    exact ⟨b, m, k, rfl, g1.rd (E := sE) (sz := 1) (by omega) sLen, g1.le, g3, .inl ⟨g1, g2⟩⟩
def signP (c : Int) : Prop := (97 ≤ c ∧ c ≤ 122) ∨ (48 ≤ c ∧ c ≤ 57) ∨ c = 45
def NameP (s : ByteArray) : Prop := 1 ≤ s.size ∧ s.size ≤ 16 ∧ byteAt s 0 ≠ 45 ∧ ∀ i : Nat, i < s.size → signP (byteAt s i)
theorem byteAt_range (s : ByteArray) (i : Int) : 0 ≤ byteAt s i ∧ byteAt s i ≤ 255 := by
  unfold byteAt
  have := UInt8.toNat_lt ((s.data[i.toNat]?).getD 0)
  omega
theorem far_ok {H : PHeap} {oa : Option Addr} {n c : Nat} {l : List ByteArray} (hl : RdL H sE 1 oa n l) : Triple Tryd.prog 9 #[.slice oa n c] H fun v H' => ∃ b, v = .bool b ∧ H' = H ∧ (b = false → n ≤ 60 ∧ ∀ x ∈ l, x.size ≤ 40) := by
  have hll := hl.len
  refine farS.vc oa n c H _ ⟨fun l' H' => match l' with | [.int _ i] => 0 ≤ i ∧ i ≤ n ∧ H' = H ∧ ∀ x ∈ l.take i.toNat, x.size ≤ 40 | _ => False, fun l' _ => match l' with | [.int _ i] => (n - i).toNat | _ => 0, ⟨by omega, by omega, rfl, by simp⟩, ?_⟩
  rintro i H1 ⟨i0, i1, rfl, hall⟩
  refine ⟨fun hc => ?_, fun hc => ⟨_, rfl, rfl, fun hb => ?_⟩⟩
  · have hi : i < n ∧ i < 100 := by
      simp only [Bool.cond_eq_ite] at hc
      grind
    obtain ⟨x, hx, hxr⟩ := hl.ex i0 hi.1
    refine ⟨hl.ob i0 hi.1, x, hxr, fun _ => ⟨_, rfl, rfl, fun e => by cases e⟩, fun hs => ?_⟩
    rw [wrapS i0 (by omega)]
    refine ⟨⟨by omega, by omega, rfl, fun y hy => ?_⟩, ⟨by simp only; omega⟩⟩
    rw [show (i + 1).toNat = i.toNat + 1 by omega, List.take_add_one, hx] at hy
    rcases List.mem_append.1 hy with hy | hy
    · exact hall y hy
    · simp at hy
      subst hy
      simp at hs
      omega
  · have hn : n ≤ 60 := by simp at hb; omega
    have hi : ¬ (i < n ∧ i < 100) := by
      simp only [Bool.cond_eq_ite] at hc
      grind
    rw [List.take_of_length_le (by omega)] at hall
    exact ⟨hn, hall⟩

/-! ### Through lists of texts -/
theorem sign_ok {H : PHeap} (c : Int) : Triple Tryd.prog 37 #[.int .u8 c] H fun v H' => ∃ b, v = .bool b ∧ H' = H ∧ (b = true ↔ signP c) := by
  refine sign.vc c H _ ⟨_, rfl, rfl, ?_⟩
  unfold signP
  simp only [Bool.cond_eq_ite]
  grind
theorem right_ok {H : PHeap} (s : ByteArray) : Triple Tryd.prog 25 #[.string s] H fun v H' => ∃ b, v = .bool b ∧ H' = H ∧ (b = true ↔ NameP s) := by
  refine right.vc s H _ ⟨fun he => ⟨fun hs => ⟨⟨by omega, ?_⟩, fun h0 => ?_, fun h0 => ?_⟩, fun hs => ?_⟩, fun he => ?_⟩
  · have : s ≠ ⟨#[]⟩ := eqS_false.1 he
    have h2 : s.size ≠ 0 := fun e => this (by cases s; simp [ByteArray.size] at e; subst e; rfl)
    omega
  · refine ⟨_, rfl, rfl, ?_⟩
    have h1 : byteAt s 0 = 45 := by simpa using h0
    simp [NameP, h1]
  · have h1 : byteAt s 0 ≠ 45 := by simpa using h0
    have hsz : s.size ≤ 16 := by simp at hs; omega
    have hpos : 1 ≤ s.size := by
      have : s ≠ ⟨#[]⟩ := eqS_false.1 he
      have h2 : s.size ≠ 0 := fun e => this (by cases s; simp [ByteArray.size] at e; subst e; rfl)
      omega
    refine ⟨fun l H' => match l with | [.int _ i] => 0 ≤ i ∧ i ≤ s.size ∧ H' = H ∧ ∀ j : Nat, (j : Int) < i → signP (byteAt s j) | _ => False, fun l _ => match l with | [.int _ i] => (s.size - i).toNat | _ => 0, ⟨by omega, by omega, rfl, fun j hj => by omega⟩, ?_⟩
    rintro i H1 ⟨i0, i1, rfl, hall⟩
    refine ⟨fun hi => ⟨⟨i0, by simpa using hi⟩, (sign_ok _).mono ?_⟩, fun hi => ?_⟩
    · have hi' : i < s.size := by simpa using hi
      rintro _ _ ⟨b, rfl, rfl, hb⟩
      refine ⟨b, rfl, fun h => ⟨_, rfl, rfl, ?_⟩, fun h => ?_⟩
      · have hb' : b = false := by simpa using h
        subst hb'
        simp only [Bool.false_eq_true, false_iff] at hb ⊢
        exact fun hn => hb (by have := hn.2.2.2 i.toNat (by omega); rwa [show ((i.toNat : Nat) : Int) = i by omega] at this)
      · have hb' : b = true := by simpa using h
        rw [wrapS i0 (by omega)]
        refine ⟨⟨by omega, by omega, rfl, fun j hj => ?_⟩, ⟨by simp only; omega⟩⟩
        by_cases e : (j : Int) = i
        · rw [e]; exact hb.1 hb'
        · exact hall j (by omega)
    · have hi' : ¬ i < s.size := by simpa using hi
      exact ⟨_, rfl, rfl, by simp only [true_iff]; exact ⟨hpos, hsz, h1, fun j hj => hall j (by omega)⟩⟩
  · have : ¬ s.size ≤ 16 := by simp at hs; omega
    exact ⟨_, rfl, rfl, by simp only [Bool.false_eq_true, false_iff]; exact fun hn => this hn.2.1⟩
  · have he' : s = ⟨#[]⟩ := eqS_iff.1 (by simpa using he)
    exact ⟨_, rfl, rfl, by simp only [Bool.false_eq_true, false_iff]; exact fun hn => by have := hn.1; rw [he'] at this; simp [ByteArray.size] at this⟩
end Go.Mdl
