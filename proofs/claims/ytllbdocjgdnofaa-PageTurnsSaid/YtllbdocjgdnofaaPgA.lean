/- Pages: the contracts of the library's functions on texts, and of what a page says. -/
import Derived.Test.YtllbdocjgdnofaaLabM
import Derived.Test.YtllbdocjgdnofaaRndA
import Derived.Test.YtllbdocjgdnofaaVcPage
namespace Go.Page
open Go.Vx Go.Vc Go.Proofs Go.Txt Go.Lab

abbrev Msg := Rnd.Msg
abbrev mE := Rnd.mE
abbrev noS : ByteArray := ⟨#[]⟩
theorem zS : ∀ i z, Try.prog.info? 9 = some i → i.zero = some z → z.cells.toList = sE noS := fun i z hi hz => by
  have h0 : (Try.prog.info? 9).bind (·.zero) = some (.string noS) := by kernel_rfl
  rw [hi] at h0
  simp [hz] at h0
  subst h0
  rfl
/-! ### Clone -/
theorem cloneS_ok {H : PHeap} {oa : Option Addr} {n c : Nat} {l : List ByteArray} (hl : RdL H sE 1 oa n l) (hn : n ≤ 100000) :
    Triple Try.prog 30 #[.slice oa n c] H fun v H' => ∃ b k, v = .slice b n k ∧ OwnL H' 9 sE 1 b n k l ∧ Sub H H' ∧ Off H b := by
  refine cloneS.vc oa n c H _ ⟨fun h => ?_, fun h k4 hk4 => ?_⟩
  · have ho : oa = none := by simpa using h
    have hn0 := hl.pos ho
    have hl0 : l = [] := List.eq_nil_of_length_eq_zero (by rw [hl.len, hn0])
    subst hl0 hn0
    exact ⟨none, 0, rfl, Owns.nil _ _ 1, Sub.refl H, Off.none _⟩
  · have hsk := Sub.upd (.cells #[] 9 (0, 0)) hk4
    refine append_rd tStr (E := sE) (l := []) sLen (Owns.empty H k4 _ 1) (hl.mono hsk) sOne (by simp [maxLen]; omega) (by omega) ?_
    intro b k H2 how hf hfr
    rw [List.nil_append] at how
    rw [Nat.zero_add] at how ⊢
    exact ⟨b, n, k, rfl, b, k, rfl, how, hf.sub hsk (off_at0 hk4), hfr.off hsk (off_at0 hk4)⟩
/-! ### DeleteFunc -/
theorem idxFS_ok {F H : PHeap} {oa : Option Addr} {n c : Nat} {l : List ByteArray} {f : Value} {p : ByteArray → Bool} (hF : Sub F H) (hl : RdL H sE 1 oa n l) (hn : n ≤ 100000) (hf : Rnd.Tells F f Value.string p) :
    Triple Try.prog 47 #[.slice oa n c, f] H fun v H' => ∃ i : Int, v = .int .i64 i ∧ Sub H H' ∧ ((i = -1 ∧ l.any p = false) ∨ ∃ (j : Nat) (x : ByteArray), i = j ∧ l[j]? = some x ∧ p x = true ∧ (l.take j).any p = false) := by
  have hll := hl.len
  refine idxFS.vc oa n c f H _ ⟨fun t H' => match t with | [.int _ i] => 0 ≤ i ∧ i ≤ n ∧ Sub H H' ∧ (l.take i.toNat).any p = false | _ => False, fun t _ => match t with | [.int _ i] => (n - i).toNat | _ => 0, ⟨by omega, by omega, Sub.refl _, by simp⟩, ?_⟩
  rintro i H1 ⟨i0, i1, hs, hno⟩
  obtain ⟨i, rfl⟩ : ∃ j : Nat, i = j := ⟨i.toNat, by omega⟩
  rw [Int.toNat_natCast] at hno
  have hl1 := hl.mono hs
  refine ⟨fun hi => ?_, fun hi => ?_⟩
  · have hi' : i < n := by simpa using hi
    obtain ⟨y, hy, hyr⟩ := hl1.ex (i := (i : Int)) (by omega) (by omega)
    rw [Int.toNat_natCast] at hy
    refine ⟨hl1.ob (by omega) (by omega), y, hyr, hf H1 y _ (hF.trans hs) fun H2 hs2 => ⟨_, rfl, fun he => ⟨_, rfl, hs.trans hs2, .inr ⟨i, _, rfl, hy, he, hno⟩⟩, fun he => ?_⟩⟩
    rw [wrapS (by omega) (by omega)]
    refine ⟨⟨by omega, by omega, hs.trans hs2, ?_⟩, ⟨by simp only; omega⟩⟩
    rw [show ((i : Int) + 1).toNat = i + 1 by omega, List.take_add_one, hy, List.any_append, hno]
    simp [he]
  · have : ¬ i < n := by simpa using hi
    rw [List.take_of_length_le (by omega)] at hno
    exact ⟨_, rfl, hs, .inl ⟨rfl, hno⟩⟩
theorem delS_own {F H : PHeap} {oa : Option Addr} {n c : Nat} {l : List ByteArray} {f : Value} {p : ByteArray → Bool} (hF : Sub F H) (ho : Off F oa) (how : OwnL H 9 sE 1 oa n c l) (hn : n ≤ 100000) (hf : Rnd.Tells F f Value.string p) :
    Triple Try.prog 29 #[.slice oa n c, f] H fun v H' => ∃ m k, v = .slice oa m k ∧ RdL H' sE 1 oa m (l.filter fun x => !p x) ∧ Sub F H' := by
  have hrd := how.rd (E := sE) (sz := 1) (by omega) sLen
  have hll := hrd.len
  have hcap := how.le
  refine delS.vc oa n c f H _ ((idxFS_ok hF hrd hn hf).mono ?_)
  rintro _ H1 ⟨i, rfl, hs1, hor⟩
  have how1 : OwnL H1 9 sE 1 oa n c l := Owns.mono how fun a o _ hb => hs1.le _ _ hb
  rcases hor with ⟨rfl, hno⟩ | ⟨j, x, rfl, hx, hp, hno⟩
  · refine ⟨_, rfl, fun _ => ⟨n, c, rfl, ?_, hF.trans hs1⟩, fun h => by simp at h⟩
    rw [Rnd.filter_none hno]
    exact hrd.mono hs1
  · have hjn : j < n := by rw [← hll]; exact (List.getElem?_eq_some_iff.1 hx).1
    refine ⟨_, rfl, fun h => by simp at h, fun _ => ?_⟩
    refine ⟨fun t H' => match t with | [.int _ i, .int _ q] => 0 ≤ i ∧ i < q ∧ q ≤ n ∧ Sub F H' ∧ ∃ l' : List ByteArray, OwnL H' 9 sE 1 oa n c l' ∧ l'.take i.toNat = (l.take q.toNat).filter (fun x => !p x) ∧ l'.drop q.toNat = l.drop q.toNat | _ => False, fun t _ => match t with | [_, .int _ q] => (n - q).toNat | _ => 0, ?_, ?_⟩
    · rw [wrapS (by omega) (by omega)]
      refine ⟨by omega, by omega, by omega, hF.trans hs1, l, how1, ?_, rfl⟩
      rw [Int.toNat_natCast, show ((j : Int) + 1).toNat = j + 1 by omega, List.take_add_one, hx, List.filter_append, Rnd.filter_none hno]
      simp [hp]
    · rintro i q H2 ⟨i0, i1, i2, hs2, l', how2, ht, hd⟩
      obtain ⟨i, rfl⟩ : ∃ j : Nat, i = j := ⟨i.toNat, by omega⟩
      obtain ⟨q, rfl⟩ : ∃ j : Nat, q = j := ⟨q.toNat, by omega⟩
      rw [Int.toNat_natCast, Int.toNat_natCast] at ht
      rw [Int.toNat_natCast] at hd
      have hrd2 := how2.rd (E := sE) (sz := 1) (by omega) sLen
      have hll2 := hrd2.len
      refine ⟨fun hi => ?_, fun hi => ?_⟩
      · have hq' : q < n := by simpa using hi
        obtain ⟨y, hy, hyr⟩ := hrd2.ex (i := (q : Int)) (by omega) (by omega)
        rw [Int.toNat_natCast] at hy
        have hyl : l[q]? = some y := by
          have h1 : (l'.drop q)[0]? = (l.drop q)[0]? := by rw [hd]
          rw [List.getElem?_drop, List.getElem?_drop, Nat.add_zero, hy] at h1
          exact h1.symm
        have htk : l.take (q + 1) = l.take q ++ [y] := by rw [List.take_add_one, hyl]; rfl
        have hdr : l'.drop (q + 1) = l.drop (q + 1) := by rw [← List.drop_drop, hd, List.drop_drop]
        have ew1 : IntKind.i64.wrap ((q : Int) + 1) = (q : Int) + 1 := wrapS (by omega) (by omega)
        have ew2 : IntKind.i64.wrap ((i : Int) + 1) = (i : Int) + 1 := wrapS (by omega) (by omega)
        rw [ew1, ew2]
        refine ⟨hrd2.ob (by omega) (by omega), y, hyr, hf H2 y _ hs2 fun H3 hs3 => ⟨_, rfl, fun he => ?_, fun he => ?_⟩⟩
        · have how3 : OwnL H3 9 sE 1 oa n c l' := Owns.mono how2 fun a o _ hb => hs3.le _ _ hb
          obtain ⟨H4, hw, how4, hf4⟩ := Owns.set sLen how3 (by omega) (i := (i : Int)) (by omega) (by omega) y
          rw [Int.toNat_natCast] at how4
          refine ⟨hrd2.ob (by omega) (by omega), H4, hw, ⟨by omega, by omega, by omega, hf4.sub (hs2.trans hs3) ho, _, how4, ?_, ?_⟩, ⟨by simp only; omega⟩⟩
          · rw [show ((i : Int) + 1).toNat = i + 1 by omega, show ((q : Int) + 1).toNat = q + 1 by omega, htk, List.filter_append, ← ht, List.take_add_one, List.getElem?_set_self (by omega), List.take_set_of_le (Nat.le_refl _)]
            have : p y = false := by simpa using he
            simp [this]
          · rw [show ((q : Int) + 1).toNat = q + 1 by omega, ← hdr, List.drop_set_of_lt (by omega)]
        · refine ⟨⟨by omega, by omega, by omega, hs2.trans hs3, l', Owns.mono how2 fun a o _ hb => hs3.le _ _ hb, ?_, ?_⟩, ⟨by simp only; omega⟩⟩
          · rw [Int.toNat_natCast, show ((q : Int) + 1).toNat = q + 1 by omega, htk, List.filter_append, ← ht]
            have : p y = true := by simpa using he
            simp [this]
          · rw [show ((q : Int) + 1).toNat = q + 1 by omega]; exact hdr
      · have hqn : q = n := by
          have : ¬ q < n := by simpa using hi
          omega
        subst hqn
        have hone : oa ≠ none := hrd2.ne (i := 0) (by omega) (by omega)
        obtain ⟨H3, hw, how3, hf3⟩ := how2.put (p := i) (ys := (List.replicate (q - i) noS).flatMap sE) (by rw [length_flatMap sLen, List.length_replicate]; omega) hone
        refine ⟨⟨by omega, by omega, by omega⟩, ?_⟩
        simp only [Int.toNat_natCast, Int.toNat_zero, Nat.sub_zero, slA_zero]
        rw [slA_pos (show (i : Int) ≠ c by omega)]
        refine clear_rw tStr (E := sE) (Z := noS) zS (sOne noS) (fun e => absurd e (hrd2.elem_ne (by omega) (by omega))) (.inr hw) ?_
        refine ⟨⟨by omega, by omega, by omega⟩, i, c, rfl, ?_, hf3.sub hs2 ho⟩
        have h5 := how3.cut (m := i) (by omega)
        rw [List.append_assoc, List.take_append_of_le_length (by rw [List.length_take, length_flatMap sLen, hll2]; omega), List.take_take, Nat.min_self] at h5
        have e1 : (l'.flatMap sE).take (i * 1) = (l'.take i).flatMap sE := by
          conv => lhs; rw [← List.take_append_drop i l', List.flatMap_append]
          rw [List.take_left' (by rw [length_flatMap sLen, List.length_take]; omega)]
        rw [e1, ht, List.take_of_length_le (by omega)] at h5
        exact Owns.rd (E := sE) (sz := 1) (by omega) sLen h5
/-! ### The greatest text -/
def maxL : List ByteArray → ByteArray
  | [] => noS
  | x :: xs => xs.foldl maxT x
theorem maxL_snoc {l : List ByteArray} {x : ByteArray} (h : l ≠ []) : maxL (l ++ [x]) = maxT (maxL l) x := by
  cases l with
  | nil => exact absurd rfl h
  | cons y ys => simp [maxL]
theorem maxL_mem : ∀ {l : List ByteArray}, l ≠ [] → maxL l ∈ l
  | [], h => absurd rfl h
  | x :: xs, _ => by
    have : ∀ (xs : List ByteArray) (x : ByteArray), xs.foldl maxT x ∈ x :: xs := by
      intro xs
      induction xs with
      | nil => intro x; simp
      | cons y ys ih =>
        intro x
        rw [List.foldl_cons]
        have := ih (maxT x y)
        rcases List.mem_cons.1 this with h | h
        · rw [h]
          unfold maxT
          split <;> simp
        · exact List.mem_cons_of_mem _ (List.mem_cons_of_mem _ h)
    exact this xs x
theorem maxS_ok {H : PHeap} {oa : Option Addr} {n c : Nat} {l : List ByteArray} (hl : RdL H sE 1 oa n l) (h0 : 0 < n) (hn : n ≤ 100000) :
    Triple Try.prog 28 #[.slice oa n c] H fun v H' => v = .string (maxL l) ∧ H' = H := by
  have hll := hl.len
  refine maxS.vc oa n c H _ ⟨fun e => by simp at e; omega, fun _ => ⟨hl.ob (by omega) (by omega), ?_⟩⟩
  obtain ⟨x, hx, hxr⟩ := hl.ex (i := (0 : Int)) (by omega) (by omega)
  refine ⟨x, hxr, fun t H' => match t with | [.string s, .int _ i] => 1 ≤ i ∧ i ≤ n ∧ H' = H ∧ s = maxL (l.take i.toNat) | _ => False, fun t _ => match t with | [_, .int _ i] => (n - i).toNat | _ => 0, ⟨by omega, by omega, rfl, ?_⟩, ?_⟩
  · cases l with
    | nil => simp at hx
    | cons y ys => simp at hx; subst hx; simp [maxL]
  rintro s i H1 ⟨i0, i1, rfl, rfl⟩
  obtain ⟨i, rfl⟩ : ∃ j : Nat, i = j := ⟨i.toNat, by omega⟩
  refine ⟨fun hi => ?_, fun hi => ?_⟩
  · have hi' : i < n := by simpa using hi
    obtain ⟨y, hy, hyr⟩ := hl.ex (i := (i : Int)) (by omega) (by omega)
    rw [Int.toNat_natCast] at hy
    rw [wrapS (by omega) (by omega)]
    refine ⟨hl.ob (by omega) (by omega), y, hyr, ⟨by omega, by omega, rfl, ?_⟩, ⟨by simp only; omega⟩⟩
    rw [show ((i : Int) + 1).toNat = i + 1 by omega, List.take_add_one, hy, Int.toNat_natCast]
    refine (maxL_snoc fun e => ?_).symm
    have := congrArg List.length e
    simp only [List.length_take, List.length_nil] at this
    omega
  · have hi' : ¬ i < n := by simpa using hi
    rw [Int.toNat_natCast, List.take_of_length_le (by omega)]
    exact ⟨rfl, rfl⟩

/-! ### What a page says -/
abbrev kind_ (m : Msg) : Int := m.1
abbrev what_ (m : Msg) : Int := m.2.2.2.2.2.2.2.2.2.1
abbrev who_ (m : Msg) : Sl Int := m.2.2.2.2.2.2.2.2.2.2.1
abbrev names_ (m : Msg) : Sl ByteArray := m.2.2.2.2.2.2.2.2.2.2.2.1
abbrev iE : Int → List Value := intE .i64
/-- What a message's slices hold is read. -/
structure OkP (H : PHeap) (m : Msg) : Prop where
  who : RdL H iE 1 (who_ m).oa (who_ m).n (who_ m).l
  names : RdL H sE 1 (names_ m).oa (names_ m).n (names_ m).l
  small : (names_ m).n ≤ 300
theorem OkP.mono {H H' : PHeap} {m : Msg} (h : OkP H m) (hs : Sub H H') : OkP H' m := ⟨h.who.mono hs, h.names.mono hs, h.small⟩
abbrev vM (m : Msg) : Value := .agg (mE m).toArray
theorem listed_ok {H : PHeap} {oa : Option Addr} {n c : Nat} {l : List Msg} (hl : RdL H mE 13 oa n l) (hn : n ≤ 100000) :
    Triple Try.prog 24 #[.slice oa n c] H fun v H' => ∃ b m k, v = .slice b m k ∧ RdL H' mE 13 b m (l.filter fun m => kind_ m == 20) ∧ Sub H H' ∧ Off H b := by
  refine listed.vc oa n c H _ ((Rnd.cloneM_ok hl hn).mono ?_)
  rintro _ H1 ⟨b, k, rfl, g1, g2, g3⟩
  refine ⟨b, n, k, rfl, (Rnd.delFunc_own (p := fun m => kind_ m != 20) g2 g3 g1 hn fun H2 x Q _ hQ => ?_).mono ?_⟩
  · refine CallY.fn (by kernel_rfl) ?_
    obtain ⟨y1, y2, y3, y4, y5, y6, y7, y8, y9, y10, ⟨ya, yb, yc, yl⟩, ⟨za, zb, zc, zl⟩, ⟨wa, wb, wc, wl⟩⟩ := x
    exact listed1.vc y1 y2 y3 y4 y5 y6 y7 y8 y9 y10 ya yb yc za zb zc wa wb wc H2 Q (hQ H2 (Sub.refl _))
  · rintro _ H2 ⟨m, k2, rfl, h1, h2⟩
    refine ⟨b, m, k2, rfl, b, m, k2, rfl, ?_, h2, g3⟩
    have e : (fun m : Msg => !(kind_ m != 20)) = fun m => kind_ m == 20 := funext fun m => by simp [bne]
    rwa [e] at h1
/-- What a page says of its node. -/
def stateL (m : Msg) : Int := ((who_ m).l.head?).getD 0
theorem state_ok {H : PHeap} {m : Msg} (h : OkP H m) : Triple Try.prog 25 #[vM m] H fun v H' => v = .int .i64 (stateL m) ∧ H' = H := by
  obtain ⟨y1, y2, y3, y4, y5, y6, y7, y8, y9, y10, ⟨ya, yb, yc, yl⟩, ⟨za, zb, zc, zl⟩, ⟨wa, wb, wc, wl⟩⟩ := m
  have hw : RdL H iE 1 ya yb yl := h.who
  have hwl := hw.len
  refine state.vc y1 y2 y3 y4 y5 y6 y7 y8 y9 y10 ya yb yc za zb zc wa wb wc H _ ⟨fun e => ?_, fun e => ?_⟩
  · have e' : yb = 0 := by simp at e; omega
    have : yl = [] := List.eq_nil_of_length_eq_zero (by omega)
    subst this
    exact ⟨rfl, rfl⟩
  · have e' : 0 < yb := by simp at e; omega
    obtain ⟨x, hx, hxr⟩ := hw.ex (i := (0 : Int)) (by omega) (by omega)
    refine ⟨hw.ob (by omega) (by omega), x, hxr, ?_, rfl⟩
    have : yl.head? = some x := by rw [List.head?_eq_getElem?]; simpa using hx
    simp [stateL, who_, this]
/-- A page is whole. -/
def wholeB (m : Msg) : Bool := what_ m == 1 || (names_ m).l.isEmpty
theorem whole_ok {H : PHeap} {m : Msg} (h : OkP H m) : Triple Try.prog 27 #[vM m] H fun v H' => v = .bool (wholeB m) ∧ H' = H := by
  obtain ⟨y1, y2, y3, y4, y5, y6, y7, y8, y9, y10, ⟨ya, yb, yc, yl⟩, ⟨za, zb, zc, zl⟩, ⟨wa, wb, wc, wl⟩⟩ := m
  have hw : RdL H sE 1 za zb zl := h.names
  have hwl := hw.len
  refine whole.vc y1 y2 y3 y4 y5 y6 y7 y8 y9 y10 ya yb yc za zb zc wa wb wc H _ ⟨?_, rfl⟩
  congr 1
  have e : ((zb : Int) == 0) = zl.isEmpty := by
    cases zl with
    | nil => have : zb = 0 := hwl.symm; subst this; rfl
    | cons a l => have : zb = l.length + 1 := hwl.symm; subst this; simp; omega
  simp only [wholeB, what_, names_, e]
  cases (y10 == 1) <;> rfl
end Go.Page
