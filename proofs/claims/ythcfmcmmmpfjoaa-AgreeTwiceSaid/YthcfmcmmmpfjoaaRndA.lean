/- Messages, and the contracts of the library's functions on slices of them. -/
import Derived.Test.YthcfmcmmmpfjoaaE3
import Derived.Test.YthcfmcmmmpfjoaaVcRound
namespace Go.Rnd
open Go.Vx Go.Vc Go.Proofs

abbrev Msg := Int × Int × Int × Int × ByteArray × Int × Int × Int × Int × Int × Sl Int × Sl ByteArray × Sl Int
abbrev iE : Int → List Value := intE .i64
abbrev mE : Msg → List Value := pairE iE (pairE iE (pairE iE (pairE iE (pairE strE (pairE iE (pairE iE (pairE iE (pairE iE (pairE iE (pairE Sl.E (pairE Sl.E Sl.E)))))))))))
abbrev z0 : Msg := (0, 0, 0, 0, ⟨#[]⟩, 0, 0, 0, 0, 0, ⟨none, 0, 0, []⟩, ⟨none, 0, 0, []⟩, ⟨none, 0, 0, []⟩)
abbrev from_ (m : Msg) : Int := m.2.1
abbrev to_ (m : Msg) : Int := m.2.2.1
theorem mLen (m : Msg) : (mE m).length = 13 := rfl
theorem iLen (n : Int) : (iE n).length = 1 := rfl
theorem mOne (m : Msg) : ∀ u ∈ mE m, u.oneCell' = true := fun u hu => by
  simp [pairE, intE, strE, Sl.E] at hu
  rcases hu with rfl | rfl | rfl | rfl | rfl | rfl | rfl | rfl | rfl | rfl | rfl | rfl | rfl <;> rfl
theorem iOne (n : Int) : ∀ u ∈ iE n, u.oneCell' = true := fun u hu => by simp [intE] at hu; subst hu; rfl
theorem tM : ElemT Try.prog 24 32 13 160 := .of (by kernel_rfl)
theorem tI : ElemT Try.prog 29 3 1 8 := .of (by kernel_rfl)
theorem zM : ∀ i z, Try.prog.info? 32 = some i → i.zero = some z → z.cells.toList = mE z0 := fun i z hi hz => by
  have h0 : (Try.prog.info? 32).bind (·.zero) = some (.agg (mE z0).toArray) := by kernel_rfl
  rw [hi] at h0
  simp [hz] at h0
  subst h0
  rfl
theorem wrapS {i : Int} (h0 : 0 ≤ i) (h1 : i ≤ 1000000) : IntKind.i64.wrap (i + 1) = i + 1 := wrap64 (by omega) (by omega)
theorem fld_from {H : PHeap} {oa : Option Addr} {x : Msg} (h : Reads H oa (mE x)) : Reads H (fldA oa 1) [.int .i64 (from_ x)] := h.fld 1 fun j v hv => by
  match j, hv with
  | 0, hv => simpa [pairE, strE, intE] using hv
  | j + 1, hv => simp at hv
theorem fld_to {H : PHeap} {oa : Option Addr} {x : Msg} (h : Reads H oa (mE x)) : Reads H (fldA oa 2) [.int .i64 (to_ x)] := h.fld 2 fun j v hv => by
  match j, hv with
  | 0, hv => simpa [pairE, strE, intE] using hv
  | j + 1, hv => simp at hv

/-! ### Clone -/
theorem cloneM_ok {H : PHeap} {oa : Option Addr} {n c : Nat} {l : List Msg} (hl : RdL H mE 13 oa n l) (hn : n ≤ 100000) :
    Triple Try.prog 73 #[.slice oa n c] H fun v H' => ∃ b k, v = .slice b n k ∧ OwnL H' 32 mE 13 b n k l ∧ Sub H H' ∧ Off H b := by
  refine cloneM.vc oa n c H _ ⟨fun h => ?_, fun h k4 hk4 => ?_⟩
  · have ho : oa = none := by simpa using h
    have hn0 := hl.pos ho
    have hl0 : l = [] := List.eq_nil_of_length_eq_zero (by rw [hl.len, hn0])
    subst hl0 hn0
    exact ⟨none, 0, rfl, Owns.nil _ _ 13, Sub.refl H, Off.none _⟩
  · have hsk := Sub.upd (.cells #[] 32 (0, 0)) hk4
    refine append_rd tM (E := mE) (l := []) mLen (Owns.empty H k4 _ 13) (hl.mono hsk) mOne (by simp [maxLen]; omega) (by omega) ?_
    intro b k H2 how hf hfr
    rw [List.nil_append] at how
    rw [Nat.zero_add] at how ⊢
    exact ⟨b, n, k, rfl, b, k, rfl, how, hf.sub hsk (off_at0 hk4), hfr.off hsk (off_at0 hk4)⟩
theorem cloneI_ok {H : PHeap} {oa : Option Addr} {n c : Nat} {l : List Int} (hl : RdL H iE 1 oa n l) (hn : n ≤ 100000) :
    Triple Try.prog 74 #[.slice oa n c] H fun v H' => ∃ b k, v = .slice b n k ∧ OwnL H' 3 iE 1 b n k l ∧ Sub H H' ∧ Off H b := by
  refine cloneI.vc oa n c H _ ⟨fun h => ?_, fun h k4 hk4 => ?_⟩
  · have ho : oa = none := by simpa using h
    have hn0 := hl.pos ho
    have hl0 : l = [] := List.eq_nil_of_length_eq_zero (by rw [hl.len, hn0])
    subst hl0 hn0
    exact ⟨none, 0, rfl, Owns.nil _ _ 1, Sub.refl H, Off.none _⟩
  · have hsk := Sub.upd (.cells #[] 3 (0, 0)) hk4
    refine append_rd tI (E := iE) (l := []) iLen (Owns.empty H k4 _ 1) (hl.mono hsk) iOne (by simp [maxLen]; omega) (by omega) ?_
    intro b k H2 how hf hfr
    rw [List.nil_append] at how
    rw [Nat.zero_add] at how ⊢
    exact ⟨b, n, k, rfl, b, k, rfl, how, hf.sub hsk (off_at0 hk4), hfr.off hsk (off_at0 hk4)⟩

/-! ### Contains -/
theorem contains_ok {H : PHeap} {oa : Option Addr} {n c : Nat} {l : List Int} {x : Int} (hl : RdL H iE 1 oa n l) (hn : n ≤ 100000) :
    Triple Try.prog 48 #[.slice oa n c, .int .i64 x] H fun v H' => v = .bool (decide (x ∈ l)) ∧ H' = H := by
  have hll := hl.len
  have hidx : Triple Try.prog 76 #[.slice oa n c, .int .i64 x] H fun v H' => ∃ i : Int, v = .int .i64 i ∧ decide (i ≥ 0) = decide (x ∈ l) ∧ H' = H := by
    refine index.vc oa n c x H _ ⟨fun t H' => match t with | [.int _ i] => 0 ≤ i ∧ i ≤ n ∧ H' = H ∧ x ∉ l.take i.toNat | _ => False, fun t _ => match t with | [.int _ i] => (n - i).toNat | _ => 0, ⟨by omega, by omega, rfl, by simp⟩, ?_⟩
    rintro i H1 ⟨i0, i1, rfl, hno⟩
    obtain ⟨i, rfl⟩ : ∃ j : Nat, i = j := ⟨i.toNat, by omega⟩
    rw [Int.toNat_natCast] at hno
    refine ⟨fun hi => ?_, fun hi => ?_⟩
    · have hi' : i < n := by simpa using hi
      obtain ⟨y, hy, hyr⟩ := hl.ex (i := (i : Int)) (by omega) (by omega)
      rw [Int.toNat_natCast] at hy
      refine ⟨hl.ob (by omega) (by omega), y, hyr, fun he => ⟨_, rfl, ?_, rfl⟩, fun he => ?_⟩
      · have : x = y := by simpa using he
        have h1 : x ∈ l := by rw [this]; exact List.mem_of_getElem? hy
        simp [h1]
      · rw [wrapS (by omega) (by omega)]
        refine ⟨⟨by omega, by omega, rfl, ?_⟩, ⟨by simp only; omega⟩⟩
        have hne : x ≠ y := by simpa using he
        rw [show ((i : Int) + 1).toNat = i + 1 by omega, List.take_add_one, hy]
        simp only [List.mem_append, not_or]
        exact ⟨hno, by simpa using hne⟩
    · have : ¬ i < n := by simpa using hi
      rw [List.take_of_length_le (by omega)] at hno
      exact ⟨_, rfl, by simp [hno], rfl⟩
  refine contains.vc oa n c x H _ (hidx.mono ?_)
  rintro _ H' ⟨i, rfl, he, rfl⟩
  exact ⟨i, rfl, by rw [he], rfl⟩
/-- A function that tells of an element, above a part of the heap. -/
def Tells {α : Type} (F : PHeap) (f : Value) (A : α → Value) (p : α → Bool) : Prop := ∀ (H1 : PHeap) (x : α) (Q : Value → PHeap → Prop), Sub F H1 → (∀ H', Sub H1 H' → Q (.bool (p x)) H') → CallY Try.prog f #[A x] H1 Q

/-! ### DeleteFunc -/
theorem idxFuncM_ok {F H : PHeap} {oa : Option Addr} {n c : Nat} {l : List Msg} {f : Value} {p : Msg → Bool} (hF : Sub F H) (hl : RdL H mE 13 oa n l) (hn : n ≤ 100000) (hf : Tells F f (fun m => Value.agg (mE m).toArray) p) :
    Triple Try.prog 75 #[.slice oa n c, f] H fun v H' => ∃ i : Int, v = .int .i64 i ∧ Sub H H' ∧ ((i = -1 ∧ l.any p = false) ∨ ∃ (j : Nat) (x : Msg), i = j ∧ l[j]? = some x ∧ p x = true ∧ (l.take j).any p = false) := by
  have hll := hl.len
  refine idxFuncM.vc oa n c f H _ ⟨fun t H' => match t with | [.int _ i] => 0 ≤ i ∧ i ≤ n ∧ Sub H H' ∧ (l.take i.toNat).any p = false | _ => False, fun t _ => match t with | [.int _ i] => (n - i).toNat | _ => 0, ⟨by omega, by omega, Sub.refl _, by simp⟩, ?_⟩
  rintro i H1 ⟨i0, i1, hs, hno⟩
  obtain ⟨i, rfl⟩ : ∃ j : Nat, i = j := ⟨i.toNat, by omega⟩
  rw [Int.toNat_natCast] at hno
  have hl1 := hl.mono hs
  refine ⟨fun hi => ?_, fun hi => ?_⟩
  · have hi' : i < n := by simpa using hi
    obtain ⟨y, hy, hyr⟩ := hl1.ex (i := (i : Int)) (by omega) (by omega)
    rw [Int.toNat_natCast] at hy
    obtain ⟨y1, y2, y3, y4, y5, y6, y7, y8, y9, y10, ⟨ya, yb, yc, yl⟩, ⟨za, zb, zc, zl⟩, ⟨wa, wb, wc, wl⟩⟩ := y
    refine ⟨hl1.ob (by omega) (by omega), y1, y2, y3, y4, y5, y6, y7, y8, y9, y10, ya, yb, yc, za, zb, zc, wa, wb, wc, hyr, hf H1 (y1, y2, y3, y4, y5, y6, y7, y8, y9, y10, ⟨ya, yb, yc, yl⟩, ⟨za, zb, zc, zl⟩, ⟨wa, wb, wc, wl⟩) _ (hF.trans hs) fun H2 hs2 => ⟨_, rfl, fun he => ⟨_, rfl, hs.trans hs2, .inr ⟨i, _, rfl, hy, he, hno⟩⟩, fun he => ?_⟩⟩
    rw [wrapS (by omega) (by omega)]
    refine ⟨⟨by omega, by omega, hs.trans hs2, ?_⟩, ⟨by simp only; omega⟩⟩
    rw [show ((i : Int) + 1).toNat = i + 1 by omega, List.take_add_one, hy, List.any_append, hno]
    simp [he]
  · have : ¬ i < n := by simpa using hi
    rw [List.take_of_length_le (by omega)] at hno
    exact ⟨_, rfl, hs, .inl ⟨rfl, hno⟩⟩
theorem filter_none {α : Type} {p : α → Bool} {l : List α} (h : l.any p = false) : l.filter (fun x => !p x) = l := by
  rw [List.filter_eq_self]
  intro x hx
  have := List.any_eq_false.1 h x hx
  simpa using this
theorem delFunc_own {F H : PHeap} {oa : Option Addr} {n c : Nat} {l : List Msg} {f : Value} {p : Msg → Bool} (hF : Sub F H) (ho : Off F oa) (how : OwnL H 32 mE 13 oa n c l) (hn : n ≤ 100000) (hf : Tells F f (fun m => Value.agg (mE m).toArray) p) :
    Triple Try.prog 45 #[.slice oa n c, f] H fun v H' => ∃ m k, v = .slice oa m k ∧ RdL H' mE 13 oa m (l.filter fun x => !p x) ∧ Sub F H' := by
  have hrd := how.rd (E := mE) (sz := 13) (by omega) mLen
  have hll := hrd.len
  have hcap := how.le
  refine delFunc.vc oa n c f H _ ((idxFuncM_ok hF hrd hn hf).mono ?_)
  rintro _ H1 ⟨i, rfl, hs1, hor⟩
  have how1 : OwnL H1 32 mE 13 oa n c l := Owns.mono how fun a o _ hb => hs1.le _ _ hb
  rcases hor with ⟨rfl, hno⟩ | ⟨j, x, rfl, hx, hp, hno⟩
  · refine ⟨_, rfl, fun _ => ⟨n, c, rfl, ?_, hF.trans hs1⟩, fun h => by simp at h⟩
    rw [filter_none hno]
    exact hrd.mono hs1
  · have hjn : j < n := by rw [← hll]; exact (List.getElem?_eq_some_iff.1 hx).1
    refine ⟨_, rfl, fun h => by simp at h, fun _ => ?_⟩
    refine ⟨fun t H' => match t with | [.int _ i, .int _ q] => 0 ≤ i ∧ i < q ∧ q ≤ n ∧ Sub F H' ∧ ∃ l' : List Msg, OwnL H' 32 mE 13 oa n c l' ∧ l'.take i.toNat = (l.take q.toNat).filter (fun x => !p x) ∧ l'.drop q.toNat = l.drop q.toNat | _ => False, fun t _ => match t with | [_, .int _ q] => (n - q).toNat | _ => 0, ?_, ?_⟩
    · rw [wrapS (by omega) (by omega)]
      refine ⟨by omega, by omega, by omega, hF.trans hs1, l, how1, ?_, rfl⟩
      rw [Int.toNat_natCast, show ((j : Int) + 1).toNat = j + 1 by omega, List.take_add_one, hx, List.filter_append, filter_none hno]
      simp [hp]
    · rintro i q H2 ⟨i0, i1, i2, hs2, l', how2, ht, hd⟩
      obtain ⟨i, rfl⟩ : ∃ j : Nat, i = j := ⟨i.toNat, by omega⟩
      obtain ⟨q, rfl⟩ : ∃ j : Nat, q = j := ⟨q.toNat, by omega⟩
      rw [Int.toNat_natCast, Int.toNat_natCast] at ht
      rw [Int.toNat_natCast] at hd
      have hrd2 := how2.rd (E := mE) (sz := 13) (by omega) mLen
      have hll2 := hrd2.len
      refine ⟨fun hi => ?_, fun hi => ?_⟩
      · have hq' : q < n := by simpa using hi
        obtain ⟨y, hy, hyr⟩ := hrd2.ex (i := (q : Int)) (by omega) (by omega)
        rw [Int.toNat_natCast] at hy
        have hyl : l[q]? = some y := by
          have h1 : (l'.drop q)[0]? = (l.drop q)[0]? := by rw [hd]
          rw [List.getElem?_drop, List.getElem?_drop, Nat.add_zero, hy] at h1
          exact h1.symm
        have htk : l.take (q + 1) = l.take q ++ [y] := by rw [List.take_add_one, hyl]; rfl
        have hdr : l'.drop (q + 1) = l.drop (q + 1) := by rw [← List.drop_drop, hd, List.drop_drop]
        have ew1 : IntKind.i64.wrap ((q : Int) + 1) = (q : Int) + 1 := wrapS (by omega) (by omega)
        have ew2 : IntKind.i64.wrap ((i : Int) + 1) = (i : Int) + 1 := wrapS (by omega) (by omega)
        rw [ew1, ew2]
        obtain ⟨y1, y2, y3, y4, y5, y6, y7, y8, y9, y10, ⟨ya, yb, yc, yl⟩, ⟨za, zb, zc, zl⟩, ⟨wa, wb, wc, wl⟩⟩ := y
        refine ⟨hrd2.ob (by omega) (by omega), y1, y2, y3, y4, y5, y6, y7, y8, y9, y10, ya, yb, yc, za, zb, zc, wa, wb, wc, hyr, hf H2 (y1, y2, y3, y4, y5, y6, y7, y8, y9, y10, ⟨ya, yb, yc, yl⟩, ⟨za, zb, zc, zl⟩, ⟨wa, wb, wc, wl⟩) _ hs2 fun H3 hs3 => ⟨_, rfl, fun he => ?_, fun he => ?_⟩⟩
        · have how3 : OwnL H3 32 mE 13 oa n c l' := Owns.mono how2 fun a o _ hb => hs3.le _ _ hb
          obtain ⟨H4, hw, how4, hf4⟩ := Owns.set mLen how3 (by omega) (i := (i : Int)) (by omega) (by omega) ((y1, y2, y3, y4, y5, y6, y7, y8, y9, y10, ⟨ya, yb, yc, yl⟩, ⟨za, zb, zc, zl⟩, ⟨wa, wb, wc, wl⟩) : Msg)
          rw [Int.toNat_natCast] at how4
          refine ⟨hrd2.ob (by omega) (by omega), H4, hw, ⟨by omega, by omega, by omega, hf4.sub (hs2.trans hs3) ho, _, how4, ?_, ?_⟩, ⟨by simp only; omega⟩⟩
          · rw [show ((i : Int) + 1).toNat = i + 1 by omega, show ((q : Int) + 1).toNat = q + 1 by omega, htk, List.filter_append, ← ht, List.take_add_one, List.getElem?_set_self (by omega), List.take_set_of_le (Nat.le_refl _)]
            have : p (y1, y2, y3, y4, y5, y6, y7, y8, y9, y10, ⟨ya, yb, yc, yl⟩, ⟨za, zb, zc, zl⟩, ⟨wa, wb, wc, wl⟩) = false := by simpa using he
            simp [this]
          · rw [show ((q : Int) + 1).toNat = q + 1 by omega, ← hdr, List.drop_set_of_lt (by omega)]
        · refine ⟨⟨by omega, by omega, by omega, hs2.trans hs3, l', Owns.mono how2 fun a o _ hb => hs3.le _ _ hb, ?_, ?_⟩, ⟨by simp only; omega⟩⟩
          · rw [Int.toNat_natCast, show ((q : Int) + 1).toNat = q + 1 by omega, htk, List.filter_append, ← ht]
            have : p (y1, y2, y3, y4, y5, y6, y7, y8, y9, y10, ⟨ya, yb, yc, yl⟩, ⟨za, zb, zc, zl⟩, ⟨wa, wb, wc, wl⟩) = true := by simpa using he
            simp [this]
          · rw [show ((q : Int) + 1).toNat = q + 1 by omega]; exact hdr
      · have hqn : q = n := by
          have : ¬ q < n := by simpa using hi
          omega
        subst hqn
        have hone : oa ≠ none := hrd2.ne (i := 0) (by omega) (by omega)
        obtain ⟨H3, hw, how3, hf3⟩ := how2.put (p := i) (ys := (List.replicate (q - i) z0).flatMap mE) (by rw [length_flatMap mLen, List.length_replicate]; omega) hone
        refine ⟨⟨by omega, by omega, by omega⟩, ?_⟩
        simp only [Int.toNat_natCast, Int.toNat_zero, Nat.sub_zero, slA_zero]
        rw [slA_pos (show (i : Int) ≠ c by omega)]
        refine clear_rw tM (E := mE) (Z := z0) zM (mOne z0) (fun e => absurd e (hrd2.elem_ne (by omega) (by omega))) (.inr hw) ?_
        refine ⟨⟨by omega, by omega, by omega⟩, i, c, rfl, ?_, hf3.sub hs2 ho⟩
        have h5 := how3.cut (m := i) (by omega)
        rw [List.append_assoc, List.take_append_of_le_length (by rw [List.length_take, length_flatMap mLen, hll2]; omega), List.take_take, Nat.min_self] at h5
        have e1 : (l'.flatMap mE).take (i * 13) = (l'.take i).flatMap mE := by
          conv => lhs; rw [← List.take_append_drop i l', List.flatMap_append]
          rw [List.take_left' (by rw [length_flatMap mLen, List.length_take]; omega)]
        rw [e1, ht, List.take_of_length_le (by omega)] at h5
        exact Owns.rd (E := mE) (sz := 13) (by omega) mLen h5
theorem delFunc_ok {F H : PHeap} {oa : Option Addr} {n c : Nat} {l : List Msg} {f : Value} {p : Msg → Bool} (hF : Sub F H) (ho : Off F oa) (how : OwnL H 32 mE 13 oa n c l) (hn : n ≤ 100000) (hf : Tells F f (fun m => Value.agg (mE m).toArray) p) :
    Triple Try.prog 45 #[.slice oa n c, f] H fun v H' => ∃ b m k, v = .slice b m k ∧ RdL H' mE 13 b m (l.filter fun x => !p x) ∧ Sub F H' :=
  (delFunc_own hF ho how hn hf).mono fun v H' ⟨m, k, h⟩ => ⟨oa, m, k, h⟩
end Go.Rnd
