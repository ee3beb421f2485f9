/- Pages: the contracts of the library's functions on texts, and of what a page says. · Pages: the contract of a turn, where nobody is suspect. · What is to be shown of each function, in its normal form.  · Heaps of numbers in a list, and numbers that rise, in plain words. · The contracts of a heap of numbers: its methods, and what goes up and down in it. · The contracts of numbers that rise, but some: by the heap, and by the reference. -/
import Derived.Test.YtajkbeifgghpmaaGreatProg
import Derived.KernelRfl
import Derived.Test.YtajkbeifgghpmaaGreatCEk07
set_option linter.unusedVariables false
set_option maxRecDepth 100000
namespace Go.Page
open Go.Vx Go.Vc Go.Proofs Go.Txt Go.Lab
abbrev Msg := Rnd.Msg
abbrev mE := Rnd.mE
abbrev noS : ByteArray := ⟨#[]⟩
theorem zS : ∀ i z, Tryz.prog.info? 9 = some i → i.zero = some z → z.cells.toList = sE noS := fun i z hi hz => by
  have h0 : (Tryz.prog.info? 9).bind (·.zero) = some (.string noS) := by kernel_rfl
  rw [hi] at h0
  simp [hz] at h0
  subst h0
  rfl
theorem cloneS_ok {H : PHeap} {oa : Option Addr} {n c : Nat} {l : List ByteArray} (hl : RdL H sE 1 oa n l) (hn : n ≤ 100000) :
    Triple Tryz.prog 130 #[.slice oa n c] H fun v H' => ∃ b k, v = .slice b n k ∧ OwnL H' 9 sE 1 b n k l ∧ Sub H H' ∧ Off H b := by
  refine cloneS.vc oa n c H _ ⟨fun h => ?_, fun h k4 hk4 => ?_⟩
  · have ho : oa = none := by simpa using h
    have hn0 := hl.pos ho
    have hl0 : l = [] := List.eq_nil_of_length_eq_zero (by rw [hl.len, hn0])
    subst hl0 hn0
    exact ⟨none, 0, rfl, Owns.nil _ _ 1, Sub.refl H, Off.none _⟩
  · have hsk := Sub.upd (.cells #[] 9 (0, 0)) hk4
    refine append_rd tStr (E := sE) (l := []) sLen (Owns.empty H k4 _ 1) (hl.mono hsk) sOne (by simp [maxLen]; omega) (by omega) ?_
    intro b k H2 how hf hfr
    rw [List.nil_append] at how
    rw [Nat.zero_add] at how ⊢
    exact ⟨b, n, k, rfl, b, k, rfl, how, hf.sub hsk (off_at0 hk4), hfr.off hsk (off_at0 hk4)⟩
theorem idxFS_ok {F H : PHeap} {oa : Option Addr} {n c : Nat} {l : List ByteArray} {f : Value} {p : ByteArray → Bool} (hF : Sub F H) (hl : RdL H sE 1 oa n l) (hn : n ≤ 100000) (hf : Rnd.Tells F f Value.string p) :
    Triple Tryz.prog 151 #[.slice oa n c, f] H fun v H' => ∃ i : Int, v = .int .i64 i ∧ Sub H H' ∧ ((i = -1 ∧ l.any p = false) ∨ ∃ (j : Nat) (x : ByteArray), i = j ∧ l[j]? = some x ∧ p x = true ∧ (l.take j).any p = false) := by
  have hll := hl.len
  refine idxFS.vc oa n c f H _ ⟨fun t H' => match t with | [.int _ i] => 0 ≤ i ∧ i ≤ n ∧ Sub H H' ∧ (l.take i.toNat).any p = false | _ => False, fun t _ => match t with | [.int _ i] => (n - i).toNat | _ => 0, ⟨by omega, by omega, Sub.refl _, by simp⟩, ?_⟩
  rintro i H1 ⟨i0, i1, hs, hno⟩
  obtain ⟨i, rfl⟩ : ∃ j : Nat, i = j := ⟨i.toNat, by omega⟩
  rw [Int.toNat_natCast] at hno
  have hl1 := hl.mono hs
  refine ⟨fun hi => ?_, fun hi => ?_⟩
  · have hi' : i < n := by simpa using hi
    obtain ⟨y, hy, hyr⟩ := hl1.ex (i := (i : Int)) (by omega) (by omega)
    rw [Int.toNat_natCast] at hy
    refine ⟨hl1.ob (by omega) (by omega), y, hyr, hf H1 y _ (hF.trans hs) fun H2 hs2 => ⟨_, rfl, fun he => ⟨_, rfl, hs.trans hs2, .inr ⟨i, _, rfl, hy, he, hno⟩⟩, fun he => ?_⟩⟩
    rw [wrapS (by omega) (by omega)]
    refine ⟨⟨by omega, by omega, hs.trans hs2, ?_⟩, ⟨by simp only; omega⟩⟩
    rw [show ((i : Int) + 1).toNat = i + 1 by omega, List.take_add_one, hy, List.any_append, hno]
    simp [he]
  · have : ¬ i < n := by simpa using hi
    rw [List.take_of_length_le (by omega)] at hno
    exact ⟨_, rfl, hs, .inl ⟨rfl, hno⟩⟩
theorem delS_own {F H : PHeap} {oa : Option Addr} {n c : Nat} {l : List ByteArray} {f : Value} {p : ByteArray → Bool} (hF : Sub F H) (ho : Off F oa) (how : OwnL H 9 sE 1 oa n c l) (hn : n ≤ 100000) (hf : Rnd.Tells F f Value.string p) :
    Triple Tryz.prog 129 #[.slice oa n c, f] H fun v H' => ∃ m k, v = .slice oa m k ∧ RdL H' sE 1 oa m (l.filter fun x => !p x) ∧ Sub F H' := by
  have hrd := how.rd (E := sE) (sz := 1) (by omega) sLen
  have hll := hrd.len
  have hcap := how.le
  refine delS.vc oa n c f H _ ((idxFS_ok hF hrd hn hf).mono ?_)
  rintro _ H1 ⟨i, rfl, hs1, hor⟩
  have how1 : OwnL H1 9 sE 1 oa n c l := Owns.mono how fun a o _ hb => hs1.le _ _ hb
  rcases hor with ⟨rfl, hno⟩ | ⟨j, x, rfl, hx, hp, hno⟩
  · refine ⟨_, rfl, fun _ => ⟨n, c, rfl, ?_, hF.trans hs1⟩, fun h => by simp at h⟩
    rw [Rnd.filter_none hno]
    exact hrd.mono hs1
  · have hjn : j < n := by rw [← hll]; exact (List.getElem?_eq_some_iff.1 hx).1
    refine ⟨_, rfl, fun h => by simp at h, fun _ => ?_⟩
    refine ⟨fun t H' => match t with | [.int _ i, .int _ q] => 0 ≤ i ∧ i < q ∧ q ≤ n ∧ Sub F H' ∧ ∃ l' : List ByteArray, OwnL H' 9 sE 1 oa n c l' ∧ l'.take i.toNat = (l.take q.toNat).filter (fun x => !p x) ∧ l'.drop q.toNat = l.drop q.toNat | _ => False, fun t _ => match t with | [_, .int _ q] => (n - q).toNat | _ => 0, ?_, ?_⟩
    · rw [wrapS (by omega) (by omega)]
      refine ⟨by omega, by omega, by omega, hF.trans hs1, l, how1, ?_, rfl⟩
      rw [Int.toNat_natCast, show ((j : Int) + 1).toNat = j + 1 by omega, List.take_add_one, hx, List.filter_append, Rnd.filter_none hno]
      simp [hp]
    · rintro i q H2 ⟨i0, i1, i2, hs2, l', how2, ht, hd⟩
      obtain ⟨i, rfl⟩ : ∃ j : Nat, i = j := ⟨i.toNat, by omega⟩
      obtain ⟨q, rfl⟩ : ∃ j : Nat, q = j := ⟨q.toNat, by omega⟩
      rw [Int.toNat_natCast, Int.toNat_natCast] at ht
      rw [Int.toNat_natCast] at hd
      have hrd2 := how2.rd (E := sE) (sz := 1) (by omega) sLen
      have hll2 := hrd2.len
      refine ⟨fun hi => ?_, fun hi => ?_⟩
      · have hq' : q < n := by simpa using hi
        obtain ⟨y, hy, hyr⟩ := hrd2.ex (i := (q : Int)) (by omega) (by omega)
        rw [Int.toNat_natCast] at hy
        have hyl : l[q]? = some y := by
          have h1 : (l'.drop q)[0]? = (l.drop q)[0]? := by rw [hd]
          rw [List.getElem?_drop, List.getElem?_drop, Nat.add_zero, hy] at h1
          exact h1.symm
        have htk : l.take (q + 1) = l.take q ++ [y] := by rw [List.take_add_one, hyl]; rfl
        have hdr : l'.drop (q + 1) = l.drop (q + 1) := by rw [← List.drop_drop, hd, List.drop_drop]
        have ew1 : IntKind.i64.wrap ((q : Int) + 1) = (q : Int) + 1 := wrapS (by omega) (by omega)
        have ew2 : IntKind.i64.wrap ((i : Int) + 1) = (i : Int) + 1 := wrapS (by omega) (by omega)
        rw [ew1, ew2]
        refine ⟨hrd2.ob (by omega) (by omega), y, hyr, hf H2 y _ hs2 fun H3 hs3 => ⟨_, rfl, fun he => ?_, fun he => ?_⟩⟩
        · have how3 : OwnL H3 9 sE 1 oa n c l' := Owns.mono how2 fun a o _ hb => hs3.le _ _ hb
          obtain ⟨H4, hw, how4, hf4⟩ := Owns.set sLen how3 (by omega) (i := (i : Int)) (by omega) (by omega) y
          rw [Int.toNat_natCast] at how4
          refine ⟨hrd2.ob (by omega) (by omega), H4, hw, ⟨by omega, by omega, by omega, hf4.sub (hs2.trans hs3) ho, _, how4, ?_, ?_⟩, ⟨by simp only; omega⟩⟩
          · rw [show ((i : Int) + 1).toNat = i + 1 by omega, show ((q : Int) + 1).toNat = q + 1 by omega, htk, List.filter_append, ← ht, List.take_add_one, List.getElem?_set_self (by omega), List.take_set_of_le (Nat.le_refl _)]
            have : p y = false := by simpa using he
            simp [this]
          · rw [show ((q : Int) + 1).toNat = q + 1 by omega, ← hdr, List.drop_set_of_lt (by omega)]
        · refine ⟨⟨by omega, by omega, by omega, hs2.trans hs3, l', Owns.mono how2 fun a o _ hb => hs3.le _ _ hb, ?_, ?_⟩, ⟨by simp only; omega⟩⟩
          · rw [Int.toNat_natCast, show ((q : Int) + 1).toNat = q + 1 by omega, htk, List.filter_append, ← ht]
            have : p y = true := by simpa using he
            simp [this]
          · rw [show ((q : Int) + 1).toNat = q + 1 by omega]; exact hdr
      · have hqn : q = n := by
          have : ¬ q < n := by simpa using hi
          omega
        subst hqn
        have hone : oa ≠ none := hrd2.ne (i := 0) (by omega) (by omega)
        obtain ⟨H3, hw, how3, hf3⟩ := how2.put (p := i) (ys := (List.replicate (q - i) noS).flatMap sE) (by rw [length_flatMap sLen, List.length_replicate]; omega) hone
        refine ⟨⟨by omega, by omega, by omega⟩, ?_⟩
        simp only [Int.toNat_natCast, Int.toNat_zero, Nat.sub_zero, slA_zero]
        rw [slA_pos (show (i : Int) ≠ c by omega)]
        refine clear_rw tStr (E := sE) (Z := noS) zS (sOne noS) (fun e => absurd e (hrd2.elem_ne (by omega) (by omega))) (.inr hw) ?_
        refine ⟨⟨by omega, by omega, by omega⟩, i, c, rfl, ?_, hf3.sub hs2 ho⟩
        have h5 := how3.cut (m := i) (by omega)
        rw [List.append_assoc, List.take_append_of_le_length (by rw [List.length_take, length_flatMap sLen, hll2]; omega), List.take_take, Nat.min_self] at h5
        have e1 : (l'.flatMap sE).take (i * 1) = (l'.take i).flatMap sE := by
          conv => lhs; rw [← List.take_append_drop i l', List.flatMap_append]
          rw [List.take_left' (by rw [length_flatMap sLen, List.length_take]; omega)]
        rw [e1, ht, List.take_of_length_le (by omega)] at h5
        exact Owns.rd (E := sE) (sz := 1) (by omega) sLen h5
def maxL : List ByteArray → ByteArray
  | [] => noS
  | x :: xs => xs.foldl maxT x
theorem maxL_snoc {l : List ByteArray} {x : ByteArray} (h : l ≠ []) : maxL (l ++ [x]) = maxT (maxL l) x := by
  cases l with
  | nil => exact absurd rfl h
  | cons y ys => simp [maxL]
theorem maxS_ok {H : PHeap} {oa : Option Addr} {n c : Nat} {l : List ByteArray} (hl : RdL H sE 1 oa n l) (h0 : 0 < n) (hn : n ≤ 100000) :
    Triple Tryz.prog 128 #[.slice oa n c] H fun v H' => v = .string (maxL l) ∧ H' = H := by
  have hll := hl.len
  refine maxS.vc oa n c H _ ⟨fun e => by simp at e; omega, fun _ => ⟨hl.ob (by omega) (by omega), ?_⟩⟩
  obtain ⟨x, hx, hxr⟩ := hl.ex (i := (0 : Int)) (by omega) (by omega)
  refine ⟨x, hxr, fun t H' => match t with | [.string s, .int _ i] => 1 ≤ i ∧ i ≤ n ∧ H' = H ∧ s = maxL (l.take i.toNat) | _ => False, fun t _ => match t with | [_, .int _ i] => (n - i).toNat | _ => 0, ⟨by omega, by omega, rfl, ?_⟩, ?_⟩
  · cases l with
    | nil => simp at hx
    | cons y ys => simp at hx; subst hx; simp [maxL]
  rintro s i H1 ⟨i0, i1, rfl, rfl⟩
  obtain ⟨i, rfl⟩ : ∃ j : Nat, i = j := ⟨i.toNat, by omega⟩
  refine ⟨fun hi => ?_, fun hi => ?_⟩
  · have hi' : i < n := by simpa using hi
    obtain ⟨y, hy, hyr⟩ := hl.ex (i := (i : Int)) (by omega) (by omega)
    rw [Int.toNat_natCast] at hy
    rw [wrapS (by omega) (by omega)]
    refine ⟨hl.ob (by omega) (by omega), y, hyr, ⟨by omega, by omega, rfl, ?_⟩, ⟨by simp only; omega⟩⟩
    rw [show ((i : Int) + 1).toNat = i + 1 by omega, List.take_add_one, hy, Int.toNat_natCast]
    refine (maxL_snoc fun e => ?_).symm
    have := congrArg List.length e
    simp only [List.length_take, List.length_nil] at this
    omega
  · have hi' : ¬ i < n := by simpa using hi
    rw [Int.toNat_natCast, List.take_of_length_le (by omega)]
    exact ⟨rfl, rfl⟩
abbrev kind_ (m : Msg) : Int := m.1
abbrev what_ (m : Msg) : Int := m.2.2.2.2.2.2.2.2.2.1
abbrev who_ (m : Msg) : Sl Int := m.2.2.2.2.2.2.2.2.2.2.1
abbrev names_ (m : Msg) : Sl ByteArray := m.2.2.2.2.2.2.2.2.2.2.2.1
abbrev iE : Int → List Value := intE .i64
/-- What a message's slices hold is read. -/
structure OkP (H : PHeap) (m : Msg) : Prop where
  who : RdL H iE 1 (who_ m).oa (who_ m).n (who_ m).l
  names : RdL H sE 1 (names_ m).oa (names_ m).n (names_ m).l
  small : (names_ m).n ≤ 300
theorem OkP.mono {H H' : PHeap} {m : Msg} (h : OkP H m) (hs : Sub H H') : OkP H' m := ⟨h.who.mono hs, h.names.mono hs, h.small⟩
abbrev vM (m : Msg) : Value := .agg (mE m).toArray
theorem listed_ok {H : PHeap} {oa : Option Addr} {n c : Nat} {l : List Msg} (hl : RdL H mE 13 oa n l) (hn : n ≤ 100000) :
    Triple Tryz.prog 122 #[.slice oa n c] H fun v H' => ∃ b m k, v = .slice b m k ∧ RdL H' mE 13 b m (l.filter fun m => kind_ m == 20) ∧ Sub H H' ∧ Off H b := by
  refine listed.vc oa n c H _ ((Rnd.cloneM_ok hl hn).mono ?_)
  rintro _ H1 ⟨b, k, rfl, g1, g2, g3⟩
  refine ⟨b, n, k, rfl, (Rnd.delFunc_own (p := fun m => kind_ m != 20) g2 g3 g1 hn fun H2 x Q _ hQ => ?_).mono ?_⟩
  · refine CallY.fn (by kernel_rfl) ?_
    obtain ⟨y1, y2, y3, y4, y5, y6, y7, y8, y9, y10, ⟨ya, yb, yc, yl⟩, ⟨za, zb, zc, zl⟩, ⟨wa, wb, wc, wl⟩⟩ := x
    exact listed1.vc y1 y2 y3 y4 y5 y6 y7 y8 y9 y10 ya yb yc za zb zc wa wb wc H2 Q (hQ H2 (Sub.refl _))
  · rintro _ H2 ⟨m, k2, rfl, h1, h2⟩
    refine ⟨b, m, k2, rfl, b, m, k2, rfl, ?_, h2, g3⟩
    have e : (fun m : Msg => !(kind_ m != 20)) = fun m => kind_ m == 20 := funext fun m => by simp [bne]
    rwa [e] at h1
/-- What a page says of its node. -/
def stateL (m : Msg) : Int := ((who_ m).l.head?).getD 0
theorem state_ok {H : PHeap} {m : Msg} (h : OkP H m) : Triple Tryz.prog 123 #[vM m] H fun v H' => v = .int .i64 (stateL m) ∧ H' = H := by
  obtain ⟨y1, y2, y3, y4, y5, y6, y7, y8, y9, y10, ⟨ya, yb, yc, yl⟩, ⟨za, zb, zc, zl⟩, ⟨wa, wb, wc, wl⟩⟩ := m
  have hw : RdL H iE 1 ya yb yl := h.who
  have hwl := hw.len
  refine state.vc y1 y2 y3 y4 y5 y6 y7 y8 y9 y10 ya yb yc za zb zc wa wb wc H _ ⟨fun e => ?_, fun e => ?_⟩
  · have e' : yb = 0 := by simp at e; omega
    have : yl = [] := List.eq_nil_of_length_eq_zero (by omega)
    subst this
    exact ⟨rfl, rfl⟩
  · have e' : 0 < yb := by simp at e; omega
    obtain ⟨x, hx, hxr⟩ := hw.ex (i := (0 : Int)) (by omega) (by omega)
    refine ⟨hw.ob (by omega) (by omega), x, hxr, ?_, rfl⟩
    have : yl.head? = some x := by rw [List.head?_eq_getElem?]; simpa using hx
    simp [stateL, who_, this]
/-- A page is whole. -/
def wholeB (m : Msg) : Bool := what_ m == 1 || (names_ m).l.isEmpty
theorem whole_ok {H : PHeap} {m : Msg} (h : OkP H m) : Triple Tryz.prog 127 #[vM m] H fun v H' => v = .bool (wholeB m) ∧ H' = H := by
  obtain ⟨y1, y2, y3, y4, y5, y6, y7, y8, y9, y10, ⟨ya, yb, yc, yl⟩, ⟨za, zb, zc, zl⟩, ⟨wa, wb, wc, wl⟩⟩ := m
  have hw : RdL H sE 1 za zb zl := h.names
  have hwl := hw.len
  refine whole.vc y1 y2 y3 y4 y5 y6 y7 y8 y9 y10 ya yb yc za zb zc wa wb wc H _ ⟨?_, rfl⟩
  congr 1
  have e : ((zb : Int) == 0) = zl.isEmpty := by
    cases zl with
    | nil => have : zb = 0 := hwl.symm; subst this; rfl
    | cons a l => have : zb = l.length + 1 := hwl.symm; subst this; simp; omega
  simp only [wholeB, what_, names_, e]
  cases (y10 == 1) <;> rfl
end Go.Page
namespace Go.Page
open Go.Vx Go.Vc Go.Proofs Go.Txt Go.Lab
/-- The least limit: at its end, or a text. -/
def limStep (st : Bool × ByteArray) (s : ByteArray) : Bool × ByteArray := if st.1 || lessS s st.2 then (false, s) else st
def limL (L : List Msg) : Bool × ByteArray := L.foldl (fun st m => if wholeB m then st else limStep st (maxL (names_ m).l)) (true, noS)
def farB (lim : Bool × ByteArray) (s : ByteArray) : Bool := !lim.1 && lessS lim.2 s
/-- The names behind pages. -/
def namesL (lim : Bool × ByteArray) (names : List ByteArray) (L : List Msg) : List ByteArray := L.foldl (fun o m => mergeL (o ++ (names_ m).l.filter fun s => !farB lim s)) names
theorem limL_snoc (L : List Msg) (m : Msg) : limL (L ++ [m]) = if wholeB m then limL L else limStep (limL L) (maxL (names_ m).l) := by simp [limL]
theorem namesL_snoc (lim : Bool × ByteArray) (names : List ByteArray) (L : List Msg) (m : Msg) : namesL lim names (L ++ [m]) = mergeL (namesL lim names L ++ (names_ m).l.filter fun s => !farB lim s) := by simp [namesL]
theorem mergeL_len (l : List ByteArray) : (mergeL l).length ≤ l.length := by
  have := foldl_len l []
  simpa [mergeL] using this
def sumN (L : List Msg) : Nat := (L.map fun m => (names_ m).l.length).sum
theorem namesL_len (lim : Bool × ByteArray) (names : List ByteArray) (L : List Msg) : (namesL lim names L).length ≤ names.length + sumN L := by
  have key : ∀ (L : List Msg) (o : List ByteArray), (L.foldl (fun o m => mergeL (o ++ (names_ m).l.filter fun s => !farB lim s)) o).length ≤ o.length + sumN L := by
    intro L
    induction L with
    | nil => intro o; simp [sumN]
    | cons m ms ih =>
      intro o
      rw [List.foldl_cons]
      have h1 := ih (mergeL (o ++ (names_ m).l.filter fun s => !farB lim s))
      have h2 := mergeL_len (o ++ (names_ m).l.filter fun s => !farB lim s)
      have h3 := List.length_filter_le (fun s => !farB lim s) (names_ m).l
      rw [List.length_append] at h2
      have e : sumN (m :: ms) = (names_ m).l.length + sumN ms := by simp [sumN]
      rw [e]
      omega
  exact key L names
theorem sumN_take (L : List Msg) (i : Nat) : sumN (L.take i) ≤ sumN L := by
  have : sumN L = sumN (L.take i) + sumN (L.drop i) := by
    have e : ∀ (A B : List Msg), sumN (A ++ B) = sumN A + sumN B := fun A B => by unfold sumN; rw [List.map_append, List.sum_append]
    rw [← e, List.take_append_drop]
  omega
theorem limit_ok {H : PHeap} {k5 k6 : Nat} {e : Bool} {least s : ByteArray} (h6 : Bx H k6 4 [.bool e]) (h5 : Bx H k5 9 [.string least]) (hne : k5 ≠ k6) :
    Triple Tryz.prog 125 #[.string s, .pointer (at0 k6), .pointer (at0 k5)] H fun v H' => v = .tuple #[] ∧ Bx H' k6 4 [.bool (limStep (e, least) s).1] ∧ Bx H' k5 9 [.string (limStep (e, least) s).2] ∧ ∀ q o, q ≠ k5 → q ≠ k6 → H q = some o → H' q = some o := by
  have wr : ∀ {P : PHeap → Prop}, (∀ H', Bx H' k6 4 [.bool false] → Bx H' k5 9 [.string s] → (∀ q o, q ≠ k5 → q ≠ k6 → H q = some o → H' q = some o) → P H') → ∃ H9, Writes H H9 (at0 k5) [.string s] ∧ ∃ H10, Writes H9 H10 (at0 k6) [.bool false] ∧ P H10 := by
    intro P hP
    have h6' := h6.upd_ne (.cells [Value.string s].toArray 9 (0, 0)) hne.symm
    refine ⟨_, h5.writes [.string s] rfl, _, h6'.writes [.bool false] rfl, hP _ (Bx.new _ _ _ _) ((Bx.new H k5 9 [.string s]).upd_ne _ hne) fun q o h1 h2 hq => ?_⟩
    rw [Vx.upd_ne _ _ h2, Vx.upd_ne _ _ h1]; exact hq
  refine pTurn1.vc s (at0 k6) (at0 k5) H _ ⟨e, h6.reads, fun he => ⟨least, h5.reads, (less_ok s least).use ⟨_, rfl, fun hl => wr fun H' g1 g2 g3 => ?_, fun hl => ?_⟩⟩, fun he => wr fun H' g1 g2 g3 => ?_⟩
  · have e1 : limStep (e, least) s = (false, s) := by simp [limStep, hl]
    rw [e1]; exact ⟨rfl, g1, g2, g3⟩
  · have e1 : limStep (e, least) s = (e, least) := by simp [limStep, he, hl]
    rw [e1]; exact ⟨rfl, h6, h5, fun _ _ _ _ h => h⟩
  · have e' : e = true := by simpa using he
    have e1 : limStep (e, least) s = (false, s) := by simp [limStep, e']
    rw [e1]; exact ⟨rfl, g1, g2, g3⟩
theorem far_ok' {H : PHeap} {k5 k6 : Nat} {lim : Bool × ByteArray} {s : ByteArray} (h6 : Bx H k6 4 [.bool lim.1]) (h5 : Bx H k5 9 [.string lim.2]) {Q : Value → PHeap → Prop} (hQ : Q (.bool (farB lim s)) H) :
    Triple Tryz.prog 131 #[.string s, .pointer (at0 k6), .pointer (at0 k5)] H Q := by
  refine pTurn2.vc s (at0 k6) (at0 k5) H Q ⟨lim.1, h6.reads, fun e => ⟨lim.2, h5.reads, (less_ok lim.2 s).use ⟨_, rfl, ?_⟩⟩, fun e => ?_⟩
  · have e' : lim.1 = false := by simpa using e
    have : farB lim s = lessS lim.2 s := by simp [farB, e']
    rwa [this] at hQ
  · have e' : lim.1 = true := by simpa using e
    have : farB lim s = false := by simp [farB, e']
    rwa [this] at hQ
/-- The block k holds pages, apart from F, which holds what it reads. -/
structure PgS (F H : PHeap) (k : Nat) (names : List ByteArray) (after : ByteArray) : Prop where
  sub : Sub F H
  off : F k = none
  row : ∃ oa n c, Bx H k 73 [.slice oa n c, .string after, .slice none 0 0] ∧ RdL F sE 1 oa n names
theorem PgS.mono {F H H' : PHeap} {k : Nat} {names : List ByteArray} {after : ByteArray} (h : PgS F H k names after) (hs : Sub H H') : PgS F H' k names after := by
  obtain ⟨oa, n, c, h1, h2⟩ := h.row
  exact ⟨h.sub.trans hs, h.off, oa, n, c, h1.sub hs, h2⟩
theorem PgS.new (H : PHeap) {k : Nat} (hk : H k = none) : PgS H (H.upd k (.cells #[.slice none 0 0, .string noS, .slice none 0 0] 73)) k [] noS :=
  ⟨Sub.upd _ hk, hk, none, 0, 0, Bx.new H k _ _, RdL.nil _ _ _⟩
end Go.Page
namespace Go.Vc
open Go.Vx Go
def rest.cx : Cx := ⟨[12], [(3, [15], []), (9, [8], [])], [], []⟩
def some.cx : Cx := ⟨[], [], [], []⟩
def hPush.cx : Cx := ⟨[], [], [], []⟩
def hPop.cx : Cx := ⟨[], [], [], []⟩
def hUp.cx : Cx := ⟨[], [(0, [1], [])], [], []⟩
def hDown.cx : Cx := ⟨[], [(2, [7], [])], [], []⟩
def nLen.cx : Cx := ⟨[], [], [], []⟩
def nLess.cx : Cx := ⟨[], [], [], []⟩
def nPop.cx : Cx := ⟨[], [], [], []⟩
def nPush.cx : Cx := ⟨[], [], [], []⟩
def nSwap.cx : Cx := ⟨[], [], [], []⟩
def refRest.cx : Cx := ⟨[], [(3, [5, 6], []), (7, [7], [])], [], []⟩
def refHasD.cx : Cx := ⟨[], [(2, [5], [])], [], []⟩
theorem rest.vc (a1 : Option Addr) (k2 : Nat) (k3 : Nat) (a4 : Option Addr) (k5 : Nat) (k6 : Nat) (H : PHeap) (Q : Value → PHeap → Prop)
 (h : ∀ (k7 : Nat),
 H k7 = none →
 ∀ (k8 : Nat),
 H.upd k7 (Obj.cells #[] 3) k8 = none →
 ∃ (R9 : Rl) (M10 : Mu),
 R9 [Value.int IntKind.i64 0] ((H.upd k7 (Obj.cells #[] 3)).upd k8 (Obj.cells #[Value.slice (at0 k7) 0 0] 139)) ∧
 ∀ (n11 : Int) (H12 : PHeap),
 R9 [Value.int IntKind.i64 n11] H12 →
 (decide (n11 < (↑k2 : Int)) = true →
 Ob (a1 ≠ none ∧ 0 ≤ n11 ∧ n11 < (↑k2 : Int)) ∧
 ∃ n13,
 Reads H12 (elemA a1 n11 1) [Value.int IntKind.i64 n13] ∧
 Triple Proofs.Tryz.prog 59 #[Value.slice a4 k5 k6, Value.int IntKind.i64 n13] H12 fun v14 H15 =>
 ∃ b16,
 v14 = Value.bool b16 ∧
 ((!b16) = true →
 Triple Proofs.Tryz.prog 101 #[Value.iface 138 (Value.pointer (at0 k8)), Value.iface 3 (Value.int IntKind.i64 n13)] H15 fun v17 H18 =>
 v17 = Value.tuple #[] ∧
 R9 [Value.int IntKind.i64 (IntKind.i64.wrap (n11 + 1))] H18 ∧
 Less (M10 [Value.int IntKind.i64 (IntKind.i64.wrap (n11 + 1))] H18) (M10 [Value.int IntKind.i64 n11] H12)) ∧
 ((!b16) = false →
 R9 [Value.int IntKind.i64 (IntKind.i64.wrap (n11 + 1))] H15 ∧
 Less (M10 [Value.int IntKind.i64 (IntKind.i64.wrap (n11 + 1))] H15) (M10 [Value.int IntKind.i64 n11] H12))) ∧
 (decide (n11 < (↑k2 : Int)) = false →
 ∃ (R19 : Rl) (M20 : Mu),
 R19 [Value.slice none 0 0] H12 ∧
 ∀ (a21 : Option Addr) (k22 k23 : Nat) (H24 : PHeap),
 R19 [Value.slice a21 k22 k23] H24 →
 Triple Proofs.Tryz.prog 102 #[Value.iface 138 (Value.pointer (at0 k8))] H24 fun v25 H26 =>
 ∃ b27,
 v25 = Value.bool b27 ∧
 (b27 = true →
 Ob (at0 k8 ≠ none) ∧
 ∃ a28 k29 k30,
 Reads H26 (at0 k8) [Value.slice a28 k29 k30] ∧
 Ob (a28 ≠ none ∧ (0 : Int) ≤ 0 ∧ 0 < (↑k29 : Int)) ∧
 ∃ n31,
 Reads H26 (elemA a28 0 1) [Value.int IntKind.i64 n31] ∧
 Triple Proofs.Tryz.prog 103 #[Value.iface 138 (Value.pointer (at0 k8))] H26 fun v32 H33 =>
 ∃ v34,
 v32 = v34 ∧
 (((↑k22 : Int) == 0) = false →
 Ob (a21 ≠ none ∧ 0 ≤ IntKind.i64.wrap ((↑k22 : Int) - 1) ∧ IntKind.i64.wrap ((↑k22 : Int) - 1) < (↑k22 : Int)) ∧
 ∃ n35,
 Reads H33 (elemA a21 (IntKind.i64.wrap ((↑k22 : Int) - 1)) 1) [Value.int IntKind.i64 n35] ∧
 ((n35 != n31) = true →
 ∀ (k36 : Nat),
 H33 k36 = none →
 EvV Proofs.Tryz.prog
 (Builtin.append_ #[42, 42] 42 #[Value.slice a21 k22 k23, Value.slice (at0 k36) 1 1])
 (H33.upd k36 (Obj.cells #[Value.int IntKind.i64 n31] 3)) fun v37 H38 =>
 ∃ a39 k40 k41,
 v37 = Value.slice a39 k40 k41 ∧
 R19 [Value.slice a39 k40 k41] H38 ∧ Less (M20 [Value.slice a39 k40 k41] H38) (M20 [Value.slice a21 k22 k23] H24)) ∧
 ((n35 != n31) = false →
 R19 [Value.slice a21 k22 k23] H33 ∧ Less (M20 [Value.slice a21 k22 k23] H33) (M20 [Value.slice a21 k22 k23] H24))) ∧
 (((↑k22 : Int) == 0) = !false →
 ∀ (k42 : Nat),
 H33 k42 = none →
 EvV Proofs.Tryz.prog (Builtin.append_ #[42, 42] 42 #[Value.slice a21 k22 k23, Value.slice (at0 k42) 1 1])
 (H33.upd k42 (Obj.cells #[Value.int IntKind.i64 n31] 3)) fun v43 H44 =>
 ∃ a45 k46 k47,
 v43 = Value.slice a45 k46 k47 ∧
 R19 [Value.slice a45 k46 k47] H44 ∧ Less (M20 [Value.slice a45 k46 k47] H44) (M20 [Value.slice a21 k22 k23] H24))) ∧
 (b27 = false → Q (Value.slice a21 k22 k23) H26))) :
 Triple Go.Proofs.Tryz.prog 61 ([Value.slice a1 k2 k3, Value.slice a4 k5 k6]).toArray H Q :=
 Triple.of_vc rest.cx (by kernel_rfl) h
theorem some.vc (v1 : Value) (H : PHeap) (Q : Value → PHeap → Prop)
 (h : CallI Proofs.Tryz.prog v1 "Len" #[] H fun v2 H3 => ∃ n4, v2 = Value.int IntKind.i64 n4 ∧ Q (Value.bool (decide (n4 > 0))) H3) :
 Triple Go.Proofs.Tryz.prog 102 ([v1]).toArray H Q :=
 Triple.of_vc some.cx (by kernel_rfl) h
theorem hPush.vc (v1 : Value) (v2 : Value) (H : PHeap) (Q : Value → PHeap → Prop)
 (h : CallI Proofs.Tryz.prog v1 "Push" #[v2] H fun v3 H4 =>
 v3 = Value.tuple #[] ∧
 CallI Proofs.Tryz.prog v1 "Len" #[] H4 fun v5 H6 =>
 ∃ n7, v5 = Value.int IntKind.i64 n7 ∧ Triple Proofs.Tryz.prog 141 #[v1, Value.int IntKind.i64 (IntKind.i64.wrap (n7 - 1))] H6 fun v8 H9 => v8 = Value.tuple #[] ∧ Q (Value.tuple #[]) H9) :
 Triple Go.Proofs.Tryz.prog 101 ([v1, v2]).toArray H Q :=
 Triple.of_vc hPush.cx (by kernel_rfl) h
theorem hPop.vc (v1 : Value) (H : PHeap) (Q : Value → PHeap → Prop)
 (h : CallI Proofs.Tryz.prog v1 "Len" #[] H fun v2 H3 =>
 ∃ n4,
 v2 = Value.int IntKind.i64 n4 ∧
 CallI Proofs.Tryz.prog v1 "Swap" #[Value.int IntKind.i64 0, Value.int IntKind.i64 (IntKind.i64.wrap (n4 - 1))] H3 fun v5 H6 =>
 v5 = Value.tuple #[] ∧
 Triple Proofs.Tryz.prog 142 #[v1, Value.int IntKind.i64 0, Value.int IntKind.i64 (IntKind.i64.wrap (n4 - 1))] H6 fun v7 H8 =>
 ∃ b9, v7 = Value.bool b9 ∧ CallI Proofs.Tryz.prog v1 "Pop" #[] H8 fun v10 H11 => ∃ v12, v10 = v12 ∧ Q v12 H11) :
 Triple Go.Proofs.Tryz.prog 103 ([v1]).toArray H Q :=
 Triple.of_vc hPop.cx (by kernel_rfl) h
theorem hUp.vc (v1 : Value) (n2 : Int) (H : PHeap) (Q : Value → PHeap → Prop)
 (h : ∃ (R3 : Rl) (M4 : Mu),
 R3 [Value.int IntKind.i64 n2] H ∧
 ∀ (n5 : Int) (H6 : PHeap),
 R3 [Value.int IntKind.i64 n5] H6 →
 Ob ((2 : Int) ≠ 0) ∧
 ((IntKind.i64.wrap ((IntKind.i64.wrap (n5 - 1)).tdiv 2) == n5) = false →
 CallI Proofs.Tryz.prog v1 "Less" #[Value.int IntKind.i64 n5, Value.int IntKind.i64 (IntKind.i64.wrap ((IntKind.i64.wrap (n5 - 1)).tdiv 2))] H6 fun v7 H8 =>
 ∃ b9,
 v7 = Value.bool b9 ∧
 ((!b9) = true → Q (Value.tuple #[]) H8) ∧
 ((!b9) = false →
 CallI Proofs.Tryz.prog v1 "Swap" #[Value.int IntKind.i64 (IntKind.i64.wrap ((IntKind.i64.wrap (n5 - 1)).tdiv 2)), Value.int IntKind.i64 n5] H8 fun v10 H11 =>
 v10 = Value.tuple #[] ∧
 R3 [Value.int IntKind.i64 (IntKind.i64.wrap ((IntKind.i64.wrap (n5 - 1)).tdiv 2))] H11 ∧
 Less (M4 [Value.int IntKind.i64 (IntKind.i64.wrap ((IntKind.i64.wrap (n5 - 1)).tdiv 2))] H11) (M4 [Value.int IntKind.i64 n5] H6))) ∧
 ((IntKind.i64.wrap ((IntKind.i64.wrap (n5 - 1)).tdiv 2) == n5) = !false → Q (Value.tuple #[]) H6)) :
 Triple Go.Proofs.Tryz.prog 141 ([v1, Value.int IntKind.i64 n2]).toArray H Q :=
 Triple.of_vc hUp.cx (by kernel_rfl) h
theorem hDown.vc (v1 : Value) (n2 : Int) (n3 : Int) (H : PHeap) (Q : Value → PHeap → Prop)
 (h : ∃ (R4 : Rl) (M5 : Mu),
 R4 [Value.int IntKind.i64 n2] H ∧
 ∀ (n6 : Int) (H7 : PHeap),
 R4 [Value.int IntKind.i64 n6] H7 →
 ((bif decide (IntKind.i64.wrap (IntKind.i64.wrap (2 * n6) + 1) ≥ n3) then true else decide (IntKind.i64.wrap (IntKind.i64.wrap (2 * n6) + 1) < 0)) = true →
 Q (Value.bool (decide (n6 > n2))) H7) ∧
 ((bif decide (IntKind.i64.wrap (IntKind.i64.wrap (2 * n6) + 1) ≥ n3) then true else decide (IntKind.i64.wrap (IntKind.i64.wrap (2 * n6) + 1) < 0)) = false →
 (decide (IntKind.i64.wrap (IntKind.i64.wrap (IntKind.i64.wrap (2 * n6) + 1) + 1) < n3) = true →
 CallI Proofs.Tryz.prog v1 "Less"
 #[Value.int IntKind.i64 (IntKind.i64.wrap (IntKind.i64.wrap (IntKind.i64.wrap (2 * n6) + 1) + 1)), Value.int IntKind.i64 (IntKind.i64.wrap (IntKind.i64.wrap (2 * n6) + 1))] H7
 fun v8 H9 =>
 ∃ b10,
 v8 = Value.bool b10 ∧
 CallI Proofs.Tryz.prog v1 "Less"
 #[Value.int IntKind.i64 (bif b10 then IntKind.i64.wrap (IntKind.i64.wrap (IntKind.i64.wrap (2 * n6) + 1) + 1) else IntKind.i64.wrap (IntKind.i64.wrap (2 * n6) + 1)),
 Value.int IntKind.i64 n6]
 H9 fun v11 H12 =>
 ∃ b13,
 v11 = Value.bool b13 ∧
 ((!b13) = true → Q (Value.bool (decide (n6 > n2))) H12) ∧
 ((!b13) = false →
 CallI Proofs.Tryz.prog v1 "Swap"
 #[Value.int IntKind.i64 n6,
 Value.int IntKind.i64 (bif b10 then IntKind.i64.wrap (IntKind.i64.wrap (IntKind.i64.wrap (2 * n6) + 1) + 1) else IntKind.i64.wrap (IntKind.i64.wrap (2 * n6) + 1))]
 H12 fun v14 H15 =>
 v14 = Value.tuple #[] ∧
 R4
 [Value.int IntKind.i64
 (bif b10 then IntKind.i64.wrap (IntKind.i64.wrap (IntKind.i64.wrap (2 * n6) + 1) + 1) else IntKind.i64.wrap (IntKind.i64.wrap (2 * n6) + 1))]
 H15 ∧
 Less
 (M5
 [Value.int IntKind.i64
 (bif b10 then IntKind.i64.wrap (IntKind.i64.wrap (IntKind.i64.wrap (2 * n6) + 1) + 1) else IntKind.i64.wrap (IntKind.i64.wrap (2 * n6) + 1))]
 H15)
 (M5 [Value.int IntKind.i64 n6] H7))) ∧
 (decide (IntKind.i64.wrap (IntKind.i64.wrap (IntKind.i64.wrap (2 * n6) + 1) + 1) < n3) = !true →
 CallI Proofs.Tryz.prog v1 "Less" #[Value.int IntKind.i64 (IntKind.i64.wrap (IntKind.i64.wrap (2 * n6) + 1)), Value.int IntKind.i64 n6] H7 fun v16 H17 =>
 ∃ b18,
 v16 = Value.bool b18 ∧
 ((!b18) = true → Q (Value.bool (decide (n6 > n2))) H17) ∧
 ((!b18) = false →
 CallI Proofs.Tryz.prog v1 "Swap" #[Value.int IntKind.i64 n6, Value.int IntKind.i64 (IntKind.i64.wrap (IntKind.i64.wrap (2 * n6) + 1))] H17 fun v19 H20 =>
 v19 = Value.tuple #[] ∧
 R4 [Value.int IntKind.i64 (IntKind.i64.wrap (IntKind.i64.wrap (2 * n6) + 1))] H20 ∧
 Less (M5 [Value.int IntKind.i64 (IntKind.i64.wrap (IntKind.i64.wrap (2 * n6) + 1))] H20) (M5 [Value.int IntKind.i64 n6] H7))))) :
 Triple Go.Proofs.Tryz.prog 142 ([v1, Value.int IntKind.i64 n2, Value.int IntKind.i64 n3]).toArray H Q :=
 Triple.of_vc hDown.cx (by kernel_rfl) h
theorem nLen.vc (a1 : Option Addr) (k2 : Nat) (k3 : Nat) (H : PHeap) (Q : Value → PHeap → Prop)
 (h : Q (Value.int IntKind.i64 (↑k2 : Int)) H) :
 Triple Go.Proofs.Tryz.prog 220 ([Value.slice a1 k2 k3]).toArray H Q :=
 Triple.of_vc nLen.cx (by kernel_rfl) h
theorem nLess.vc (a1 : Option Addr) (k2 : Nat) (k3 : Nat) (n4 : Int) (n5 : Int) (H : PHeap) (Q : Value → PHeap → Prop)
 (h : ∃ H6,
 Vx.Sub H6 H ∧
 Ob (a1 ≠ none ∧ 0 ≤ n4 ∧ n4 < (↑k2 : Int)) ∧
 ∃ n7,
 Reads H6 (elemA a1 n4 1) [Value.int IntKind.i64 n7] ∧
 Ob (a1 ≠ none ∧ 0 ≤ n5 ∧ n5 < (↑k2 : Int)) ∧ ∃ n8, Reads H6 (elemA a1 n5 1) [Value.int IntKind.i64 n8] ∧ Q (Value.bool (decide (n7 < n8))) H) :
 Triple Go.Proofs.Tryz.prog 221 ([Value.slice a1 k2 k3, Value.int IntKind.i64 n4, Value.int IntKind.i64 n5]).toArray H Q :=
 Triple.of_vc nLess.cx (by kernel_rfl) h
theorem nPop.vc (a1 : Option Addr) (H : PHeap) (Q : Value → PHeap → Prop)
 (h : Ob (a1 ≠ none) ∧
 ∃ a2 k3 k4,
 Reads H a1 [Value.slice a2 k3 k4] ∧
 Ob (a1 ≠ none) ∧
 ∃ a5 k6 k7,
 Reads H a1 [Value.slice a5 k6 k7] ∧
 Ob (a5 ≠ none ∧ 0 ≤ IntKind.i64.wrap ((↑k3 : Int) - 1) ∧ IntKind.i64.wrap ((↑k3 : Int) - 1) < (↑k6 : Int)) ∧
 ∃ n8,
 Reads H (elemA a5 (IntKind.i64.wrap ((↑k3 : Int) - 1)) 1) [Value.int IntKind.i64 n8] ∧
 Ob (a1 ≠ none) ∧
 ∃ a9 k10 k11,
 Reads H a1 [Value.slice a9 k10 k11] ∧
 Ob ((0 : Int) ≤ 0 ∧ 0 ≤ IntKind.i64.wrap ((↑k3 : Int) - 1) ∧ IntKind.i64.wrap ((↑k3 : Int) - 1) ≤ (↑k11 : Int)) ∧
 Ob (a1 ≠ none) ∧
 ∃ H12,
 Writes H H12 a1 [Value.slice (slA a9 0 k11 1) ((IntKind.i64.wrap ((↑k3 : Int) - 1)).toNat - Int.toNat 0) (k11 - Int.toNat 0)] ∧
 Q (Value.iface 3 (Value.int IntKind.i64 n8)) H12) :
 Triple Go.Proofs.Tryz.prog 222 ([Value.pointer a1]).toArray H Q :=
 Triple.of_vc nPop.cx (by kernel_rfl) h
theorem nPush.vc (a1 : Option Addr) (v2 : Value) (H : PHeap) (Q : Value → PHeap → Prop)
 (h : EvV Proofs.Tryz.prog (Instr.typeAssert v2 20 3 true) H fun v3 H4 =>
 ∃ n5 b6,
 v3 = Value.tuple #[Value.int IntKind.i64 n5, Value.bool b6] ∧
 (b6 = true →
 Ob (a1 ≠ none) ∧
 ∃ a7 k8 k9,
 Reads H4 a1 [Value.slice a7 k8 k9] ∧
 ∀ (k10 : Nat),
 H4 k10 = none →
 EvV Proofs.Tryz.prog (Builtin.append_ #[139, 139] 139 #[Value.slice a7 k8 k9, Value.slice (at0 k10) 1 1])
 (H4.upd k10 (Obj.cells #[Value.int IntKind.i64 n5] 3)) fun v11 H12 =>
 ∃ a13 k14 k15, v11 = Value.slice a13 k14 k15 ∧ Ob (a1 ≠ none) ∧ ∃ H16, Writes H12 H16 a1 [Value.slice a13 k14 k15] ∧ Q (Value.tuple #[]) H16) ∧
 (b6 = false → Q (Value.tuple #[]) H4)) :
 Triple Go.Proofs.Tryz.prog 223 ([Value.pointer a1, v2]).toArray H Q :=
 Triple.of_vc nPush.cx (by kernel_rfl) h
theorem nSwap.vc (a1 : Option Addr) (k2 : Nat) (k3 : Nat) (n4 : Int) (n5 : Int) (H : PHeap) (Q : Value → PHeap → Prop)
 (h : ∃ H6,
 Vx.Sub H6 H ∧
 Ob (a1 ≠ none ∧ 0 ≤ n5 ∧ n5 < (↑k2 : Int)) ∧
 ∃ n7,
 Reads H6 (elemA a1 n5 1) [Value.int IntKind.i64 n7] ∧
 Ob (a1 ≠ none ∧ 0 ≤ n4 ∧ n4 < (↑k2 : Int)) ∧
 ∃ n8,
 Reads H6 (elemA a1 n4 1) [Value.int IntKind.i64 n8] ∧
 Ob (a1 ≠ none ∧ 0 ≤ n4 ∧ n4 < (↑k2 : Int)) ∧
 ∃ H9,
 Writes H H9 (elemA a1 n4 1) [Value.int IntKind.i64 n7] ∧
 Ob (a1 ≠ none ∧ 0 ≤ n5 ∧ n5 < (↑k2 : Int)) ∧ ∃ H10, Writes H9 H10 (elemA a1 n5 1) [Value.int IntKind.i64 n8] ∧ Q (Value.tuple #[]) H10) :
 Triple Go.Proofs.Tryz.prog 224 ([Value.slice a1 k2 k3, Value.int IntKind.i64 n4, Value.int IntKind.i64 n5]).toArray H Q :=
 Triple.of_vc nSwap.cx (by kernel_rfl) h
theorem refRest.vc (a1 : Option Addr) (k2 : Nat) (k3 : Nat) (a4 : Option Addr) (k5 : Nat) (k6 : Nat) (H : PHeap) (Q : Value → PHeap → Prop)
 (h : ∃ (R7 : Rl) (M8 : Mu),
 R7 [Value.slice none 0 0, Value.int IntKind.i64 0] H ∧
 ∀ (a9 : Option Addr) (k10 k11 : Nat) (n12 : Int) (H13 : PHeap),
 R7 [Value.slice a9 k10 k11, Value.int IntKind.i64 n12] H13 →
 (decide (n12 < (↑k2 : Int)) = true →
 Ob (a1 ≠ none ∧ 0 ≤ n12 ∧ n12 < (↑k2 : Int)) ∧
 ∃ n14,
 Reads H13 (elemA a1 n12 1) [Value.int IntKind.i64 n14] ∧
 Triple Proofs.Tryz.prog 47 #[Value.slice a4 k5 k6, Value.int IntKind.i64 n14] H13 fun v15 H16 =>
 ∃ b17,
 v15 = Value.bool b17 ∧
 (b17 = false →
 Ob (a1 ≠ none ∧ 0 ≤ n12 ∧ n12 < (↑k2 : Int)) ∧
 ∃ n18,
 Reads H16 (elemA a1 n12 1) [Value.int IntKind.i64 n18] ∧
 Triple Proofs.Tryz.prog 47 #[Value.slice a9 k10 k11, Value.int IntKind.i64 n18] H16 fun v19 H20 =>
 ∃ b21,
 v19 = Value.bool b21 ∧
 (b21 = true →
 R7 [Value.slice a9 k10 k11, Value.int IntKind.i64 (IntKind.i64.wrap (n12 + 1))] H20 ∧
 Less (M8 [Value.slice a9 k10 k11, Value.int IntKind.i64 (IntKind.i64.wrap (n12 + 1))] H20) (M8 [Value.slice a9 k10 k11, Value.int IntKind.i64 n12] H13)) ∧
 (b21 = false →
 ∃ (R22 : Rl) (M23 : Mu),
 R22 [Value.int IntKind.i64 0] H20 ∧
 ∀ (n24 : Int) (H25 : PHeap),
 R22 [Value.int IntKind.i64 n24] H25 →
 ∃ H26,
 Vx.Sub H26 H25 ∧
 (decide (n24 < (↑k10 : Int)) = true →
 Ob (a9 ≠ none ∧ 0 ≤ n24 ∧ n24 < (↑k10 : Int)) ∧
 ∃ n27,
 Reads H26 (elemA a9 n24 1) [Value.int IntKind.i64 n27] ∧
 Ob (a1 ≠ none ∧ 0 ≤ n12 ∧ n12 < (↑k2 : Int)) ∧
 ∃ n28,
 Reads H26 (elemA a1 n12 1) [Value.int IntKind.i64 n28] ∧
 (decide (n27 < n28) = true →
 R22 [Value.int IntKind.i64 (IntKind.i64.wrap (n24 + 1))] H25 ∧
 Less (M23 [Value.int IntKind.i64 (IntKind.i64.wrap (n24 + 1))] H25) (M23 [Value.int IntKind.i64 n24] H25)) ∧
 (decide (n27 < n28) = false →
 ∃ H29,
 Vx.Sub H29 H25 ∧
 Ob (a1 ≠ none ∧ 0 ≤ n12 ∧ n12 < (↑k2 : Int)) ∧
 ∃ n30,
 Reads H29 (elemA a1 n12 1) [Value.int IntKind.i64 n30] ∧
 Ob (0 ≤ n24 ∧ n24 ≤ (↑k10 : Int) ∧ (↑k10 : Int) ≤ (↑k11 : Int)) ∧
 ∀ (k31 : Nat),
 H25 k31 = none →
 EvV Proofs.Tryz.prog
 (Builtin.append_ #[42, 42] 42
 #[Value.slice (at0 k31) 1 1,
 Value.slice (slA a9 n24 k11 1) ((↑k10 : Int).toNat - n24.toNat) (k11 - n24.toNat)])
 (H25.upd k31 (Obj.cells #[Value.int IntKind.i64 n30] 3)) fun v32 H33 =>
 ∃ a34 k35 k36,
 v32 = Value.slice a34 k35 k36 ∧
 ∀ (k37 : Nat),
 H33 k37 = none →
 Ob ((0 : Int) ≤ 0 ∧ 0 ≤ n24 ∧ n24 ≤ (↑k11 : Int)) ∧
 EvV Proofs.Tryz.prog
 (Builtin.append_ #[42, 42] 42
 #[Value.slice (at0 k37) 0 0,
 Value.slice (slA a9 0 k11 1) (n24.toNat - Int.toNat 0) (k11 - Int.toNat 0)])
 (H33.upd k37 (Obj.cells #[] 3)) fun v38 H39 =>
 ∃ a40 k41 k42,
 v38 = Value.slice a40 k41 k42 ∧
 EvV Proofs.Tryz.prog
 (Builtin.append_ #[42, 42] 42 #[Value.slice a40 k41 k42, Value.slice a34 k35 k36]) H39
 fun v43 H44 =>
 ∃ a45 k46 k47,
 v43 = Value.slice a45 k46 k47 ∧
 R7 [Value.slice a45 k46 k47, Value.int IntKind.i64 (IntKind.i64.wrap (n12 + 1))]
 H44 ∧
 Less
 (M8
 [Value.slice a45 k46 k47, Value.int IntKind.i64 (IntKind.i64.wrap (n12 + 1))]
 H44)
 (M8 [Value.slice a9 k10 k11, Value.int IntKind.i64 n12] H13))) ∧
 (decide (n24 < (↑k10 : Int)) = !true →
 ∃ H48,
 Vx.Sub H48 H25 ∧
 Ob (a1 ≠ none ∧ 0 ≤ n12 ∧ n12 < (↑k2 : Int)) ∧
 ∃ n49,
 Reads H48 (elemA a1 n12 1) [Value.int IntKind.i64 n49] ∧
 Ob (0 ≤ n24 ∧ n24 ≤ (↑k10 : Int) ∧ (↑k10 : Int) ≤ (↑k11 : Int)) ∧
 ∀ (k50 : Nat),
 H25 k50 = none →
 EvV Proofs.Tryz.prog
 (Builtin.append_ #[42, 42] 42
 #[Value.slice (at0 k50) 1 1,
 Value.slice (slA a9 n24 k11 1) ((↑k10 : Int).toNat - n24.toNat) (k11 - n24.toNat)])
 (H25.upd k50 (Obj.cells #[Value.int IntKind.i64 n49] 3)) fun v51 H52 =>
 ∃ a53 k54 k55,
 v51 = Value.slice a53 k54 k55 ∧
 ∀ (k56 : Nat),
 H52 k56 = none →
 Ob ((0 : Int) ≤ 0 ∧ 0 ≤ n24 ∧ n24 ≤ (↑k11 : Int)) ∧
 EvV Proofs.Tryz.prog
 (Builtin.append_ #[42, 42] 42
 #[Value.slice (at0 k56) 0 0,
 Value.slice (slA a9 0 k11 1) (n24.toNat - Int.toNat 0) (k11 - Int.toNat 0)])
 (H52.upd k56 (Obj.cells #[] 3)) fun v57 H58 =>
 ∃ a59 k60 k61,
 v57 = Value.slice a59 k60 k61 ∧
 EvV Proofs.Tryz.prog (Builtin.append_ #[42, 42] 42 #[Value.slice a59 k60 k61, Value.slice a53 k54 k55])
 H58 fun v62 H63 =>
 ∃ a64 k65 k66,
 v62 = Value.slice a64 k65 k66 ∧
 R7 [Value.slice a64 k65 k66, Value.int IntKind.i64 (IntKind.i64.wrap (n12 + 1))] H63 ∧
 Less (M8 [Value.slice a64 k65 k66, Value.int IntKind.i64 (IntKind.i64.wrap (n12 + 1))] H63)
 (M8 [Value.slice a9 k10 k11, Value.int IntKind.i64 n12] H13)))) ∧
 (b17 = !false →
 R7 [Value.slice a9 k10 k11, Value.int IntKind.i64 (IntKind.i64.wrap (n12 + 1))] H16 ∧
 Less (M8 [Value.slice a9 k10 k11, Value.int IntKind.i64 (IntKind.i64.wrap (n12 + 1))] H16) (M8 [Value.slice a9 k10 k11, Value.int IntKind.i64 n12] H13))) ∧
 (decide (n12 < (↑k2 : Int)) = false → Q (Value.slice a9 k10 k11) H13)) :
 Triple Go.Proofs.Tryz.prog 113 ([Value.slice a1 k2 k3, Value.slice a4 k5 k6]).toArray H Q :=
 Triple.of_vc refRest.cx (by kernel_rfl) h
theorem refHasD.vc (a1 : Option Addr) (k2 : Nat) (k3 : Nat) (n4 : Int) (H : PHeap) (Q : Value → PHeap → Prop)
 (h : ∃ (R5 : Rl) (M6 : Mu),
 R5 [Value.int IntKind.i64 0] H ∧
 ∀ (n7 : Int) (H8 : PHeap),
 R5 [Value.int IntKind.i64 n7] H8 →
 (decide (n7 < (↑k2 : Int)) = true →
 Ob (a1 ≠ none ∧ 0 ≤ n7 ∧ n7 < (↑k2 : Int)) ∧
 ∃ n9,
 Reads H8 (elemA a1 n7 1) [Value.int IntKind.i64 n9] ∧
 ((n9 == n4) = true → Q (Value.bool true) H8) ∧
 ((n9 == n4) = false →
 R5 [Value.int IntKind.i64 (IntKind.i64.wrap (n7 + 1))] H8 ∧ Less (M6 [Value.int IntKind.i64 (IntKind.i64.wrap (n7 + 1))] H8) (M6 [Value.int IntKind.i64 n7] H8))) ∧
 (decide (n7 < (↑k2 : Int)) = false → Q (Value.bool false) H8)) :
 Triple Go.Proofs.Tryz.prog 47 ([Value.slice a1 k2 k3, Value.int IntKind.i64 n4]).toArray H Q :=
 Triple.of_vc refHasD.cx (by kernel_rfl) h
end Go.Vc
namespace Go.Hp
abbrev G (l : List Int) (i : Nat) : Int := l.getD i 0
theorem G_lt {l : List Int} {i : Nat} (h : i < l.length) : l[i]? = some (G l i) := by
  simp [G, List.getD_eq_getElem?_getD, List.getElem?_eq_getElem h]
theorem mem_G {l : List Int} {x : Int} : x ∈ l ↔ ∃ k, k < l.length ∧ G l k = x := by
  rw [List.mem_iff_getElem?]
  constructor
  · rintro ⟨i, hi⟩
    have hl := (List.getElem?_eq_some_iff.1 hi).1
    rw [G_lt hl] at hi
    exact ⟨i, hl, by injection hi⟩
  · rintro ⟨i, hl, hi⟩
    exact ⟨i, by rw [G_lt hl, hi]⟩
def swapL (l : List Int) (i j : Nat) : List Int := (l.set i (G l j)).set j (G l i)
theorem swap_len (l : List Int) (i j : Nat) : (swapL l i j).length = l.length := by simp [swapL]
theorem swap_get {l : List Int} {i j : Nat} (hi : i < l.length) (hj : j < l.length) (k : Nat) : G (swapL l i j) k = if k = j then G l i else if k = i then G l j else G l k := by
  unfold swapL
  simp only [G, List.getD_eq_getElem?_getD, List.getElem?_set, List.length_set]
  by_cases h1 : k = j
  · subst h1; simp [hj]
  · by_cases h2 : k = i
    · subst h2; simp [h1, Ne.symm h1, hi]
    · simp [h1, h2, Ne.symm h1, Ne.symm h2]
theorem swap_mem {l : List Int} {i j : Nat} (hi : i < l.length) (hj : j < l.length) (x : Int) : x ∈ swapL l i j ↔ x ∈ l := by
  rw [mem_G, mem_G, swap_len]
  constructor
  · rintro ⟨k, hk, rfl⟩
    rw [swap_get hi hj]
    split
    · exact ⟨i, hi, rfl⟩
    · split
      · exact ⟨j, hj, rfl⟩
      · exact ⟨k, hk, rfl⟩
  · rintro ⟨k, hk, rfl⟩
    by_cases h1 : k = j
    · exact ⟨i, hi, by rw [swap_get hi hj]; subst h1; split <;> simp_all⟩
    · by_cases h2 : k = i
      · exact ⟨j, hj, by rw [swap_get hi hj, if_pos rfl, h2]⟩
      · exact ⟨k, hk, by rw [swap_get hi hj, if_neg h1, if_neg h2]⟩
/-- A heap of the first n. -/
def Hn (l : List Int) (n : Nat) : Prop := ∀ c, 0 < c → c < n → G l ((c - 1) / 2) ≤ G l c
theorem root_least {l : List Int} {n : Nat} (h : Hn l n) : ∀ c, c < n → G l 0 ≤ G l c := by
  intro c
  induction c using Nat.strongRecOn with
  | ind c ih =>
    intro hc
    rcases Nat.eq_zero_or_pos c with rfl | h0
    · exact Int.le_refl _
    · exact Int.le_trans (ih ((c - 1) / 2) (by omega) (by omega)) (h c h0 hc)
structure Up (l : List Int) (j : Nat) : Prop where
  oth : ∀ c, 0 < c → c < l.length → c ≠ j → G l ((c - 1) / 2) ≤ G l c
  sub : ∀ c, 0 < j → 0 < c → c < l.length → (c - 1) / 2 = j → G l ((j - 1) / 2) ≤ G l c
theorem G_app {l : List Int} {x : Int} {k : Nat} (h : k < l.length) : G (l ++ [x]) k = G l k := by
  simp [G, List.getD_eq_getElem?_getD, List.getElem?_append_left h]
theorem up_push {l : List Int} {x : Int} (h : Hn l l.length) : Up (l ++ [x]) l.length := by
  refine ⟨fun c h0 hc hne => ?_, fun c _ h0 hc he => ?_⟩
  · rw [List.length_append, List.length_singleton] at hc
    rw [G_app (by omega), G_app (by omega)]
    exact h c h0 (by omega)
  · rw [List.length_append, List.length_singleton] at hc; omega
theorem up_step {l : List Int} {j : Nat} (h : Up l j) (hj : j < l.length) (h0 : 0 < j) (hlt : G l j < G l ((j - 1) / 2)) : Up (swapL l ((j - 1) / 2) j) ((j - 1) / 2) := by
  have hi : (j - 1) / 2 < l.length := by omega
  generalize hij : (j - 1) / 2 = i at *
  refine ⟨fun c c0 hc hne => ?_, fun c i0 c0 hc he => ?_⟩
  · rw [swap_len] at hc
    rw [swap_get hi hj, swap_get hi hj]
    by_cases e : c = j
    · subst e
      rw [hij]
      rw [if_neg (by omega), if_pos rfl, if_pos rfl]
      omega
    · rw [if_neg e, if_neg hne]
      have h1 := h.oth c c0 hc e
      by_cases e1 : (c - 1) / 2 = j
      · rw [if_pos e1]
        have := h.sub c h0 c0 hc e1
        rwa [hij] at this
      · rw [if_neg e1]
        by_cases e2 : (c - 1) / 2 = i
        · rw [if_pos e2]
          rw [e2] at h1; omega
        · rw [if_neg e2]; exact h1
  · rw [swap_len] at hc
    rw [swap_get hi hj, swap_get hi hj]
    rw [if_neg (by omega), if_neg (by omega)]
    have h1 := h.oth i i0 hi (by omega)
    by_cases e : c = j
    · rw [if_pos e]; exact h1
    · rw [if_neg e, if_neg (by omega)]
      have h2 := h.oth c c0 hc e
      rw [he] at h2; omega
theorem up_end {l : List Int} {j : Nat} (h : Up l j) (hj : j = 0 ∨ G l ((j - 1) / 2) ≤ G l j) : Hn l l.length := by
  intro c c0 hc
  by_cases e : c = j
  · subst e
    rcases hj with h1 | h1
    · omega
    · exact h1
  · exact h.oth c c0 hc e
structure Dn (l : List Int) (n i : Nat) : Prop where
  oth : ∀ c, 0 < c → c < n → (c - 1) / 2 ≠ i → G l ((c - 1) / 2) ≤ G l c
  sub : ∀ c, 0 < i → 0 < c → c < n → (c - 1) / 2 = i → G l ((i - 1) / 2) ≤ G l c
theorem dn_pop {l : List Int} {n : Nat} (hl : l.length = n + 1) (h : Hn l (n + 1)) : Dn (swapL l 0 n) n 0 := by
  refine ⟨fun c c0 hc hne => ?_, fun c h0 => by omega⟩
  rw [swap_get (by omega) (by omega), swap_get (by omega) (by omega), if_neg (by omega), if_neg hne, if_neg (by omega), if_neg (by omega)]
  exact h c c0 (by omega)
theorem dn_step {l : List Int} {n i j : Nat} (h : Dn l n i) (hn : n ≤ l.length) (hj : j < n) (hc : j = 2 * i + 1 ∨ j = 2 * i + 2) (hlt : G l j < G l i) (hm : ∀ c, 0 < c → c < n → (c - 1) / 2 = i → G l j ≤ G l c) : Dn (swapL l i j) n j := by
  have hi : i < l.length := by omega
  have hj' : j < l.length := by omega
  have hji : (j - 1) / 2 = i := by omega
  refine ⟨fun c c0 hcn hne => ?_, fun c j0 c0 hcn he => ?_⟩
  · rw [swap_get hi hj', swap_get hi hj', if_neg hne]
    by_cases e : (c - 1) / 2 = i
    · rw [if_pos e]
      by_cases e1 : c = j
      · rw [if_pos e1]; omega
      · rw [if_neg e1, if_neg (by omega)]; exact hm c c0 hcn e
    · rw [if_neg e]
      have h1 := h.oth c c0 hcn e
      rw [if_neg (by omega)]
      by_cases e1 : c = i
      · rw [if_pos e1]
        subst e1
        exact h.sub j (by omega) (by omega) hj hji
      · rw [if_neg e1]; exact h1
  · rw [swap_get hi hj', swap_get hi hj', hji, if_neg (by omega), if_pos rfl, if_neg (by omega), if_neg (by omega)]
    have := h.oth c c0 hcn (by omega)
    rw [he] at this; exact this
theorem dn_end {l : List Int} {n i : Nat} (h : Dn l n i) (hm : ∀ c, 0 < c → c < n → (c - 1) / 2 = i → G l i ≤ G l c) : Hn l n := by
  intro c c0 hc
  by_cases e : (c - 1) / 2 = i
  · rw [e]; exact hm c c0 hc e
  · exact h.oth c c0 hc e
def Asc (l : List Int) : Prop := l.Pairwise (· < ·)
theorem asc_ext : ∀ {l m : List Int}, Asc l → Asc m → (∀ x, x ∈ l ↔ x ∈ m) → l = m
  | [], [], _, _, _ => rfl
  | [], y :: m, _, _, h => by have := (h y).2 (by simp); cases this
  | x :: l, [], _, _, h => by have := (h x).1 (by simp); cases this
  | x :: l, y :: m, hl, hm, h => by
    have hl' := List.pairwise_cons.1 hl
    have hm' := List.pairwise_cons.1 hm
    have hxy : x = y := by
      rcases List.mem_cons.1 ((h x).1 (by simp)) with e | e
      · exact e
      · rcases List.mem_cons.1 ((h y).2 (by simp)) with e' | e'
        · exact e'.symm
        · have h1 := hm'.1 x e
          have h2 := hl'.1 y e'
          omega
    subst hxy
    congr 1
    refine asc_ext hl'.2 hm'.2 fun z => ?_
    have hz := h z
    constructor
    · intro hz'
      have h1 := hl'.1 z hz'
      rcases List.mem_cons.1 (hz.1 (by simp [hz'])) with e | e
      · omega
      · exact e
    · intro hz'
      have h1 := hm'.1 z hz'
      rcases List.mem_cons.1 (hz.2 (by simp [hz'])) with e | e
      · omega
      · exact e
/-- A number is put in where it belongs, once. -/
def addI (l : List Int) (x : Int) : List Int := if x ∈ l then l else l.takeWhile (· < x) ++ x :: l.dropWhile (· < x)
theorem addI_mem (l : List Int) (x y : Int) : y ∈ addI l x ↔ y ∈ l ∨ y = x := by
  unfold addI
  split
  · rename_i h
    constructor
    · exact .inl
    · rintro (h1 | rfl)
      · exact h1
      · exact h
  · have : y ∈ l ↔ y ∈ l.takeWhile (· < x) ∨ y ∈ l.dropWhile (· < x) := by
      conv => lhs; rw [← List.takeWhile_append_dropWhile (p := fun y => decide (y < x)) (l := l)]
      rw [List.mem_append]
    rw [this]
    simp only [List.mem_append, List.mem_cons]
    constructor
    · rintro (h | rfl | h)
      · exact .inl (.inl h)
      · exact .inr rfl
      · exact .inl (.inr h)
    · rintro ((h | h) | rfl)
      · exact .inl h
      · exact .inr (.inr h)
      · exact .inr (.inl rfl)
theorem tw_lt {x y : Int} : ∀ {l : List Int}, y ∈ l.takeWhile (· < x) → y < x
  | [], h => by cases h
  | z :: zs, h => by
    rw [List.takeWhile_cons] at h
    split at h
    · rename_i hz
      rcases List.mem_cons.1 h with rfl | h
      · simpa using hz
      · exact tw_lt h
    · cases h
theorem dw_ge {x y : Int} : ∀ {l : List Int}, Asc l → y ∈ l.dropWhile (· < x) → x ≤ y
  | [], _, h => by cases h
  | z :: zs, ha, h => by
    have ha' := List.pairwise_cons.1 ha
    rw [List.dropWhile_cons] at h
    split at h
    · exact dw_ge ha'.2 h
    · rename_i hz
      simp at hz
      rcases List.mem_cons.1 h with rfl | h
      · exact hz
      · have := ha'.1 y h; omega
theorem addI_asc {l : List Int} {x : Int} (h : Asc l) : Asc (addI l x) := by
  unfold addI
  split
  · exact h
  · rename_i hx
    have h' := h
    unfold Asc at h'
    rw [← List.takeWhile_append_dropWhile (p := fun y => decide (y < x)) (l := l), List.pairwise_append] at h'
    refine List.pairwise_append.2 ⟨h'.1, List.pairwise_cons.2 ⟨fun y hy => ?_, h'.2.1⟩, fun a ha b hb => ?_⟩
    · have h1 := dw_ge h hy
      have h2 : y ∈ l := List.dropWhile_sublist (p := fun y => decide (y < x)) |>.subset hy
      have : x ≠ y := fun e => hx (e ▸ h2)
      omega
    · rcases List.mem_cons.1 hb with rfl | hb
      · exact tw_lt ha
      · exact h'.2.2 a ha b hb
/-- Numbers, rising, but some. -/
def restL (l w : List Int) : List Int := (l.filter fun x => !decide (x ∈ w)).foldl addI []
theorem foldI (l : List Int) : ∀ {o : List Int}, Asc o → Asc (l.foldl addI o) ∧ ∀ x, x ∈ l.foldl addI o ↔ x ∈ o ∨ x ∈ l := by
  induction l with
  | nil => intro o h; exact ⟨h, fun x => by simp⟩
  | cons y ys ih =>
    intro o h
    obtain ⟨h1, h2⟩ := ih (addI_asc (x := y) h)
    refine ⟨h1, fun x => ?_⟩
    rw [List.foldl_cons, h2, addI_mem, List.mem_cons, or_assoc]
theorem restL_spec (l w : List Int) : Asc (restL l w) ∧ ∀ x, x ∈ restL l w ↔ x ∈ l ∧ x ∉ w := by
  obtain ⟨h1, h2⟩ := foldI (l.filter fun x => !decide (x ∈ w)) (o := []) List.Pairwise.nil
  refine ⟨h1, fun x => ?_⟩
  have := h2 x
  simpa [restL, List.mem_filter] using this
theorem addI_len (l : List Int) (x : Int) : (addI l x).length ≤ l.length + 1 := by
  unfold addI
  split
  · omega
  · have := congrArg List.length (List.takeWhile_append_dropWhile (p := fun y => decide (y < x)) (l := l))
    simp only [List.length_append, List.length_cons] at *
    omega
theorem restL_len (l w : List Int) : (restL l w).length ≤ l.length := by
  have : ∀ (l o : List Int), (l.foldl addI o).length ≤ o.length + l.length := by
    intro l
    induction l with
    | nil => intro o; simp
    | cons y ys ih => intro o; have := ih (addI o y); have := addI_len o y; simp only [List.foldl_cons, List.length_cons]; omega
  have h1 := this (l.filter fun x => !decide (x ∈ w)) []
  have h2 := List.length_filter_le (fun x => !decide (x ∈ w)) l
  simp only [List.length_nil] at h1
  unfold restL
  omega
/-- The next one that is popped. -/
def popI (o : List Int) (x : Int) : List Int := if o.getLast? = some x then o else o ++ [x]
theorem popI_asc {o : List Int} {x : Int} (h : Asc o) (hx : ∀ y ∈ o, y ≤ x) : Asc (popI o x) ∧ ∀ y, y ∈ popI o x ↔ y ∈ o ∨ y = x := by
  unfold popI
  split
  · rename_i hl
    refine ⟨h, fun y => ⟨.inl, ?_⟩⟩
    rintro (h1 | rfl)
    · exact h1
    · exact List.mem_of_getLast? hl
  · rename_i hl
    refine ⟨List.pairwise_append.2 ⟨h, by simp, fun a ha b hb => ?_⟩, fun y => by simp⟩
    simp at hb
    subst hb
    have h1 := hx a ha
    by_cases e : a = b
    · exfalso
      subst e
      -- the last one is greater than all ahead of it
      cases hz : o.getLast? with
      | none => rw [List.getLast?_eq_none_iff] at hz; subst hz; cases ha
      | some z =>
        have hzm := List.mem_of_getLast? hz
        have h2 := hx z hzm
        obtain ⟨o', ho'⟩ : ∃ o', o = o' ++ [z] := by
          rw [List.getLast?_eq_some_iff] at hz
          exact hz
        subst ho'
        rcases List.mem_append.1 ha with h3 | h3
        · have := (List.pairwise_append.1 h).2.2 a h3 z (by simp)
          omega
        · simp at h3
          subst h3
          exact hl (by simp)
    · omega
end Go.Hp
namespace Go.Hp
open Go.Vx Go.Vc Go.Proofs
abbrev iE : Int → List Value := intE .i64
theorem iLen (n : Int) : (iE n).length = 1 := rfl
theorem iOne (n : Int) : ∀ u ∈ iE n, u.oneCell' = true := fun u hu => by simp [intE] at hu; subst hu; rfl
theorem tN : ElemT Tryz.prog 139 3 1 8 := .of (by kernel_rfl)
/-- The block k holds numbers in an array of their own, beside F. -/
structure Hq (F H : PHeap) (k : Nat) (l : List Int) : Prop where
  sub : Sub F H
  off : F k = none
  row : ∃ oa n c, Bx H k 139 [.slice oa n c] ∧ OwnL H 3 iE 1 oa n c l ∧ Off F oa ∧ ∀ a, oa = some a → a.block ≠ k
abbrev hv (k : Nat) : Value := .iface 138 (.pointer (at0 k))
abbrev vI (n : Int) : Value := .int .i64 n
theorem uN : Tryz.prog.underlying 138 = some (.pointer 139) := by kernel_rfl
theorem len_ok {F H : PHeap} {k : Nat} {l : List Int} {Q : Value → PHeap → Prop} (h : Hq F H k l) (hQ : Q (vI l.length) H) : CallI Tryz.prog (hv k) "Len" #[] H Q := by
  obtain ⟨oa, n, c, hb, ho, _, _⟩ := h.row
  have hn := (ho.rd (E := iE) (sz := 1) (by omega) iLen).len
  refine CallI.load (f := 220) (by kernel_rfl) uN (by kernel_rfl) (by kernel_rfl) hb.reads ?_
  exact nLen.vc oa n c H Q (by rw [← hn]; exact hQ)
theorem less_ok {F H : PHeap} {k : Nat} {l : List Int} {i j : Nat} {Q : Value → PHeap → Prop} (h : Hq F H k l) (hi : i < l.length) (hj : j < l.length) (hQ : Q (.bool (decide (G l i < G l j))) H) :
    CallI Tryz.prog (hv k) "Less" #[vI i, vI j] H Q := by
  obtain ⟨oa, n, c, hb, ho, _, _⟩ := h.row
  have hr := ho.rd (E := iE) (sz := 1) (by omega) iLen
  have hn := hr.len
  refine CallI.load (f := 221) (by kernel_rfl) uN (by kernel_rfl) (by kernel_rfl) hb.reads ?_
  have h1 : Reads H (elemA oa (i : Int) 1) [vI (G l i)] := hr.at (by omega) (by rw [Int.toNat_natCast]; exact G_lt hi)
  have h2 : Reads H (elemA oa (j : Int) 1) [vI (G l j)] := hr.at (by omega) (by rw [Int.toNat_natCast]; exact G_lt hj)
  exact nLess.vc oa n c i j H Q ⟨H, Sub.refl _, hr.ob (by omega) (by omega), _, h1, hr.ob (by omega) (by omega), _, h2, hQ⟩
theorem swap_ok {F H : PHeap} {k : Nat} {l : List Int} {i j : Nat} {Q : Value → PHeap → Prop} (h : Hq F H k l) (hi : i < l.length) (hj : j < l.length) (hQ : ∀ H', Hq F H' k (swapL l i j) → Q (.tuple #[]) H') :
    CallI Tryz.prog (hv k) "Swap" #[vI i, vI j] H Q := by
  obtain ⟨oa, n, c, hb, ho, hof, hne⟩ := h.row
  have hr := ho.rd (E := iE) (sz := 1) (by omega) iLen
  have hn := hr.len
  refine CallI.load (f := 224) (by kernel_rfl) uN (by kernel_rfl) (by kernel_rfl) hb.reads ?_
  have h1 : Reads H (elemA oa (i : Int) 1) [vI (G l i)] := hr.at (by omega) (by rw [Int.toNat_natCast]; exact G_lt hi)
  have h2 : Reads H (elemA oa (j : Int) 1) [vI (G l j)] := hr.at (by omega) (by rw [Int.toNat_natCast]; exact G_lt hj)
  obtain ⟨H1, w1, o1, f1⟩ := Owns.set iLen ho (by omega) (i := (i : Int)) (by omega) (by omega) (G l j)
  obtain ⟨H2, w2, o2, f2⟩ := Owns.set iLen o1 (by omega) (i := (j : Int)) (by omega) (by omega) (G l i)
  rw [Int.toNat_natCast] at o2
  rw [Int.toNat_natCast] at o2
  refine nSwap.vc oa n c i j H Q ⟨H, Sub.refl _, hr.ob (by omega) (by omega), _, h2, hr.ob (by omega) (by omega), _, h1, hr.ob (by omega) (by omega), H1, w1, hr.ob (by omega) (by omega), H2, w2, hQ H2 ⟨f2.sub (f1.sub h.sub hof) hof, h.off, oa, n, c, f2.bx (f1.bx hb hne) hne, o2, hof, hne⟩⟩
theorem push_ok {F H : PHeap} {k : Nat} {l : List Int} {x : Int} {Q : Value → PHeap → Prop} (h : Hq F H k l) (hl : l.length ≤ 100000) (hQ : ∀ H', Hq F H' k (l ++ [x]) → Q (.tuple #[]) H') :
    CallI Tryz.prog (hv k) "Push" #[.iface 3 (vI x)] H Q := by
  obtain ⟨oa, n, c, hb, ho, hof, hne⟩ := h.row
  have hr := ho.rd (E := iE) (sz := 1) (by omega) iLen
  have hn := hr.len
  refine CallI.ptr (f := 223) (by kernel_rfl) uN (by kernel_rfl) ?_
  refine nPush.vc (at0 k) _ H Q (assert_same (d := .int .i64) (by kernel_rfl) (fun _ e => by cases e) ⟨x, true, rfl, fun _ => ⟨obP k, oa, n, c, hb.reads, fun k10 hk10 => ?_⟩, fun e => by cases e⟩)
  refine append_one tN (E := iE) (l := l) (x := x) hk10 iLen ho rfl (iOne x) (by simp [maxLen]; omega) (by omega) ?_
  intro oa' c' H' how hf hfr _
  have hb' := hf.bx hb hne
  have hne' := hfr.ne hb hne
  have hof' := hfr.off h.sub hof
  refine ⟨oa', n + 1, c', rfl, obP k, _, hb'.writes [.slice oa' (n + 1) c'] rfl, hQ _ ⟨(hf.sub h.sub hof).wr h.off, h.off, oa', n + 1, c', Bx.new H' k _ _, ?_, hof', hne'⟩⟩
  exact Owns.mono how fun a o ha hb => by rw [Vx.upd_ne _ _ (hne' a ha)]; exact hb
theorem pop_ok {F H : PHeap} {k : Nat} {l : List Int} {x : Int} {Q : Value → PHeap → Prop} (h : Hq F H k (l ++ [x])) (hl : l.length ≤ 100000) (hQ : ∀ H', Hq F H' k l → Q (.iface 3 (vI x)) H') :
    CallI Tryz.prog (hv k) "Pop" #[] H Q := by
  obtain ⟨oa, n, c, hb, ho, hof, hne⟩ := h.row
  have hr := ho.rd (E := iE) (sz := 1) (by omega) iLen
  have hn := hr.len
  have hnc := ho.le
  rw [List.length_append, List.length_singleton] at hn
  have ew : IntKind.i64.wrap ((n : Int) - 1) = (l.length : Int) := by rw [wrap64 (by omega) (by omega)]; omega
  have h1 : Reads H (elemA oa (l.length : Int) 1) [vI x] := hr.at (by omega) (by rw [Int.toNat_natCast]; simp)
  refine CallI.ptr (f := 222) (by kernel_rfl) uN (by kernel_rfl) ?_
  refine nPop.vc (at0 k) H Q ⟨obP k, oa, n, c, hb.reads, obP k, oa, n, c, hb.reads, ?_⟩
  rw [ew]
  refine ⟨hr.ob (by omega) (by omega), x, h1, obP k, oa, n, c, hb.reads, ⟨by omega, by omega, by omega⟩, obP k, _, hb.writes [.slice (slA oa 0 c 1) ((l.length : Int).toNat - Int.toNat 0) (c - Int.toNat 0)] rfl, hQ _ ⟨h.sub.wr h.off, h.off, _, _, _, Bx.new H k _ _, ?_, ?_, ?_⟩⟩
  · rw [slA_zero]
    have h2 := ho.cut (m := l.length) (by omega)
    rw [List.flatMap_append, List.take_left' (by rw [length_flatMap iLen])] at h2
    simp only [Int.toNat_natCast, Int.toNat_zero, Nat.sub_zero]
    exact Owns.mono h2 fun a o ha hb => by rw [Vx.upd_ne _ _ (hne a ha)]; exact hb
  · rw [slA_zero]; exact hof
  · rw [slA_zero]; exact hne
theorem up_ok {F H : PHeap} {k j : Nat} {l : List Int} (h : Hq F H k l) (hj : j < l.length) (hl : l.length ≤ 100001) (hu : Up l j) :
    Triple Tryz.prog 141 #[hv k, vI j] H fun v H' => v = .tuple #[] ∧ ∃ l', Hq F H' k l' ∧ Hn l' l'.length ∧ l'.length = l.length ∧ ∀ x, x ∈ l' ↔ x ∈ l := by
  refine hUp.vc (hv k) j H _ ⟨fun t H' => match t with | [.int _ j] => 0 ≤ j ∧ ∃ l', Hq F H' k l' ∧ j.toNat < l'.length ∧ Up l' j.toNat ∧ l'.length = l.length ∧ ∀ x, x ∈ l' ↔ x ∈ l | _ => False, fun t _ => match t with | [.int _ j] => j.toNat | _ => 0, ⟨by omega, l, h, by omega, by rw [Int.toNat_natCast]; exact hu, rfl, fun _ => Iff.rfl⟩, ?_⟩
  rintro j' H1 ⟨j0, l', h', hj', hu', hl', hm⟩
  obtain ⟨j', rfl⟩ : ∃ q : Nat, j' = q := ⟨j'.toNat, by omega⟩
  rw [Int.toNat_natCast] at hj' hu'
  rcases Nat.eq_zero_or_pos j' with rfl | hp
  · have e : IntKind.i64.wrap ((IntKind.i64.wrap (((0 : Nat) : Int) - 1)).tdiv 2) = 0 := by decide
    rw [e]
    refine ⟨⟨by omega⟩, fun e => by simp at e, fun _ => ⟨rfl, l', h', up_end hu' (.inl rfl), hl', hm⟩⟩
  · have e : IntKind.i64.wrap ((IntKind.i64.wrap ((j' : Int) - 1)).tdiv 2) = (((j' - 1) / 2 : Nat) : Int) := by
      rw [wrap64 (n := (j' : Int) - 1) (by omega) (by omega), Int.tdiv_eq_ediv_of_nonneg (by omega), wrap64 (by omega) (by omega)]
      omega
    rw [e]
    refine ⟨⟨by omega⟩, fun _ => ?_, fun e => ?_⟩
    · refine less_ok h' hj' (by omega) ⟨_, rfl, fun e => ⟨rfl, l', h', up_end hu' (.inr ?_), hl', hm⟩, fun e => ?_⟩
      · have : ¬ G l' j' < G l' ((j' - 1) / 2) := by simpa using e
        omega
      · have hlt : G l' j' < G l' ((j' - 1) / 2) := by simpa using e
        refine swap_ok h' (by omega) hj' fun H2 h2 => ⟨rfl, ⟨by omega, _, h2, ?_, ?_, ?_, fun x => ?_⟩, ⟨?_⟩⟩
        · rw [swap_len]; omega
        · rw [Int.toNat_natCast]; exact up_step hu' hj' hp hlt
        · rw [swap_len, hl']
        · rw [swap_mem (by omega) hj', hm]
        · simp only [Int.toNat_natCast]; omega
    · exfalso
      have : (((j' - 1) / 2 : Nat) : Int) = j' := by simpa using e
      omega
theorem down_ok {F H : PHeap} {k n : Nat} {l : List Int} (h : Hq F H k l) (hl : l.length = n + 1) (hn : n ≤ 100000) (hd : Dn l n 0) :
    Triple Tryz.prog 142 #[hv k, vI 0, vI n] H fun v H' => (∃ b, v = .bool b) ∧ ∃ l', Hq F H' k l' ∧ Hn l' n ∧ l'.length = n + 1 ∧ G l' n = G l n ∧ ∀ x, x ∈ l' ↔ x ∈ l := by
  refine hDown.vc (hv k) 0 n H _ ⟨fun t H' => match t with | [.int _ i] => 0 ≤ i ∧ i ≤ n ∧ ∃ l', Hq F H' k l' ∧ Dn l' n i.toNat ∧ l'.length = n + 1 ∧ G l' n = G l n ∧ ∀ x, x ∈ l' ↔ x ∈ l | _ => False, fun t _ => match t with | [.int _ i] => (n - i).toNat | _ => 0, ⟨by omega, by omega, l, h, hd, hl, rfl, fun _ => Iff.rfl⟩, ?_⟩
  rintro i H1 ⟨i0, i1, l', h', hd', hl', hg, hm⟩
  obtain ⟨i, rfl⟩ : ∃ q : Nat, i = q := ⟨i.toNat, by omega⟩
  rw [Int.toNat_natCast] at hd'
  have e1 : IntKind.i64.wrap (2 * (i : Int)) = ((2 * i : Nat) : Int) := by rw [wrap64 (by omega) (by omega)]; omega
  have e2 : IntKind.i64.wrap (((2 * i : Nat) : Int) + 1) = ((2 * i + 1 : Nat) : Int) := by rw [wrap64 (by omega) (by omega)]; omega
  have e3 : IntKind.i64.wrap (((2 * i + 1 : Nat) : Int) + 1) = ((2 * i + 2 : Nat) : Int) := by rw [wrap64 (by omega) (by omega)]; omega
  rw [e1, e2, e3]
  -- it ends here
  have fin : ∀ {H2 : PHeap} {b : Bool}, Hq F H2 k l' → (∀ c, 0 < c → c < n → (c - 1) / 2 = i → G l' i ≤ G l' c) → (∃ b', Value.bool b = .bool b') ∧ ∃ l', Hq F H2 k l' ∧ Hn l' n ∧ l'.length = n + 1 ∧ G l' n = G l n ∧ ∀ x, x ∈ l' ↔ x ∈ l :=
    fun {H2 b} hq hc => ⟨⟨b, rfl⟩, l', hq, dn_end hd' hc, hl', hg, hm⟩
  -- it goes on
  have go : ∀ {H2 : PHeap} {j : Nat} {R : PHeap → Prop}, Hq F H2 k l' → j < n → (j = 2 * i + 1 ∨ j = 2 * i + 2) → G l' j < G l' i → (∀ c, 0 < c → c < n → (c - 1) / 2 = i → G l' j ≤ G l' c) →
      (∀ H3, (0 ≤ (j : Int) ∧ (j : Int) ≤ n ∧ ∃ l', Hq F H3 k l' ∧ Dn l' n (j : Int).toNat ∧ l'.length = n + 1 ∧ G l' n = G l n ∧ ∀ x, x ∈ l' ↔ x ∈ l) ∧ Less ((n - (j : Int)).toNat) ((n - (i : Int)).toNat) → R H3) →
      CallI Tryz.prog (hv k) "Swap" #[vI i, vI j] H2 fun v H3 => v = .tuple #[] ∧ R H3 := by
    intro H2 j R hq hj hji hlt hmin hR
    refine swap_ok hq (by omega) (by omega) fun H3 h3 => ⟨rfl, hR H3 ⟨⟨by omega, by omega, _, h3, ?_, ?_, ?_, fun x => ?_⟩, ⟨by omega⟩⟩⟩
    · rw [Int.toNat_natCast]; exact dn_step hd' (by omega) hj hji hlt hmin
    · rw [swap_len]; exact hl'
    · rw [swap_get (by omega) (by omega), if_neg (by omega), if_neg (by omega)]; exact hg
    · rw [swap_mem (by omega) (by omega), hm]
  refine ⟨fun e => fin h' fun c c0 c1 c2 => ?_, fun e => ?_⟩
  · exfalso
    have : (n : Int) ≤ 2 * (i : Int) + 1 ∨ 2 * (i : Int) + 1 < 0 := by simpa using e
    omega
  have hlt1 : 2 * i + 1 < n := by
    by_cases hc : ((2 * i + 1 : Nat) : Int) ≥ n
    · simp [hc] at e; omega
    · omega
  refine ⟨fun e2 => ?_, fun e2 => ?_⟩
  · have hlt2 : 2 * i + 2 < n := by
      have : ((2 * i + 2 : Nat) : Int) < n := by simpa using e2
      omega
    refine less_ok h' (by omega) (by omega) ⟨_, rfl, ?_⟩
    -- the lesser child
    obtain ⟨j, hj, hjn, hji, hmin⟩ : ∃ j : Nat, (bif decide (G l' (2 * i + 2) < G l' (2 * i + 1)) then ((2 * i + 2 : Nat) : Int) else ((2 * i + 1 : Nat) : Int)) = (j : Int) ∧ j < n ∧ (j = 2 * i + 1 ∨ j = 2 * i + 2) ∧ ∀ c, 0 < c → c < n → (c - 1) / 2 = i → G l' j ≤ G l' c := by
      by_cases hc : G l' (2 * i + 2) < G l' (2 * i + 1)
      · refine ⟨2 * i + 2, by rw [decide_eq_true hc]; rfl, hlt2, .inr rfl, fun c c0 c1 c2 => ?_⟩
        have : c = 2 * i + 1 ∨ c = 2 * i + 2 := by omega
        rcases this with rfl | rfl <;> omega
      · refine ⟨2 * i + 1, by rw [decide_eq_false hc]; rfl, hlt1, .inl rfl, fun c c0 c1 c2 => ?_⟩
        have : c = 2 * i + 1 ∨ c = 2 * i + 2 := by omega
        rcases this with rfl | rfl <;> omega
    rw [hj]
    refine less_ok h' (by omega) (by omega) ⟨_, rfl, fun e => fin h' fun c c0 c1 c2 => ?_, fun e => go h' hjn hji (by simpa using e) hmin fun H3 h3 => h3⟩
    have : ¬ G l' j < G l' i := by simpa using e
    have := hmin c c0 c1 c2
    omega
  · have hge : ¬ 2 * i + 2 < n := by
      have : ¬ ((2 * i + 2 : Nat) : Int) < n := by simpa using e2
      omega
    have hmin : ∀ c, 0 < c → c < n → (c - 1) / 2 = i → G l' (2 * i + 1) ≤ G l' c := fun c c0 c1 c2 => by
      have : c = 2 * i + 1 := by omega
      rw [this]; exact Int.le_refl _
    refine less_ok h' (by omega) (by omega) ⟨_, rfl, fun e => fin h' fun c c0 c1 c2 => ?_, fun e => go h' hlt1 (.inl rfl) (by simpa using e) hmin fun H3 h3 => h3⟩
    have : ¬ G l' (2 * i + 1) < G l' i := by simpa using e
    have := hmin c c0 c1 c2
    omega
theorem hpush_ok {F H : PHeap} {k : Nat} {l : List Int} {x : Int} (h : Hq F H k l) (hn : Hn l l.length) (hl : l.length ≤ 100000) :
    Triple Tryz.prog 101 #[hv k, .iface 3 (vI x)] H fun v H' => v = .tuple #[] ∧ ∃ l', Hq F H' k l' ∧ Hn l' l'.length ∧ l'.length = l.length + 1 ∧ ∀ y, y ∈ l' ↔ y ∈ l ∨ y = x := by
  refine hPush.vc (hv k) _ H _ (push_ok h hl fun H1 h1 => ⟨rfl, len_ok h1 ⟨_, rfl, ?_⟩⟩)
  have e : IntKind.i64.wrap (((l ++ [x]).length : Int) - 1) = (l.length : Int) := by
    rw [List.length_append, List.length_singleton, wrap64 (by omega) (by omega)]; omega
  rw [e]
  refine (up_ok h1 (by simp) (by simp; omega) (up_push hn)).mono ?_
  rintro _ H2 ⟨rfl, l', h2, h3, h4, h5⟩
  exact ⟨rfl, rfl, l', h2, h3, by simpa using h4, fun y => by rw [h5]; simp⟩
theorem hpop_ok {F H : PHeap} {k : Nat} {l : List Int} (h : Hq F H k l) (hn : Hn l l.length) (h0 : l ≠ []) (hl : l.length ≤ 100000) :
    Triple Tryz.prog 103 #[hv k] H fun v H' => v = .iface 3 (vI (G l 0)) ∧ ∃ l', Hq F H' k l' ∧ Hn l' l'.length ∧ l'.length + 1 = l.length ∧ ∀ y, y ∈ l ↔ y ∈ l' ∨ y = G l 0 := by
  obtain ⟨n, hln⟩ : ∃ n, l.length = n + 1 := ⟨l.length - 1, by
    have : l.length ≠ 0 := fun e => h0 (List.eq_nil_of_length_eq_zero e)
    omega⟩
  refine hPop.vc (hv k) H _ (len_ok h ⟨_, rfl, ?_⟩)
  have e : IntKind.i64.wrap ((l.length : Int) - 1) = (n : Int) := by rw [hln, wrap64 (by omega) (by omega)]; omega
  rw [e]
  refine swap_ok (i := 0) (j := n) h (by omega) (by omega) fun H1 h1 => ⟨rfl, ?_⟩
  refine (down_ok h1 (by rw [swap_len]; exact hln) (by omega) (dn_pop hln (by rw [← hln]; exact hn))).mono ?_
  rintro _ H2 ⟨⟨b, rfl⟩, l', h2, h3, h4, h5, h6⟩
  have e5 : G l' n = G l 0 := by rw [h5, swap_get (by omega) (by omega), if_pos rfl]
  have hsplit : l' = l'.take n ++ [G l 0] := by
    conv => lhs; rw [← List.take_append_drop n l']
    congr 1
    have h7 : l'.drop n = [G l' n] := by
      rw [List.drop_eq_getElem_cons (by omega), List.drop_eq_nil_of_le (by omega)]
      congr 1
      have := G_lt (l := l') (i := n) (by omega)
      rw [List.getElem?_eq_getElem (by omega)] at this
      exact Option.some.inj this
    rw [h7, e5]
  rw [hsplit] at h2
  refine ⟨b, rfl, pop_ok h2 (by rw [List.length_take]; omega) fun H3 h7 => ⟨_, rfl, rfl, l'.take n, h7, ?_, by rw [List.length_take]; omega, fun y => ?_⟩⟩
  · have hlt : (l'.take n).length = n := by rw [List.length_take]; omega
    intro c c0 c1
    rw [hlt] at c1
    have gt : ∀ c, c < n → G (l'.take n) c = G l' c := fun c hc => by simp [G, List.getD_eq_getElem?_getD, hc]
    rw [gt _ (by omega), gt _ c1]
    exact h3 c c0 c1
  · rw [← swap_mem (i := 0) (j := n) (by omega) (by omega), ← h6]
    conv => lhs; rw [hsplit]
    simp
end Go.Hp
namespace Go.Hp
open Go.Vx Go.Vc Go.Proofs
theorem Hq.app {F H H' H0 : PHeap} {k : Nat} {h : List Int} {oa oa' : Option Addr} {n c n' c' : Nat} {l l' : List Int} (hq : Hq F H k h) (hF : OwnL F 3 iE 1 oa n c l) (hf : Vx.Frame oa H H') (hfr : Vx.Fresh oa oa' H) (how : OwnL H' 3 iE 1 oa' n' c' l')
    (h0 : Sub H0 F) (hoff : Off H0 oa) : ∃ F', Sub H0 F' ∧ Hq F' H' k h ∧ OwnL F' 3 iE 1 oa' n' c' l' ∧ Off H0 oa' := by
  obtain ⟨F', g1, g2, g3, g4⟩ := hf.grab (oa' := oa') hq.sub
  obtain ⟨ob, m, q, hb, ho, hof, hne⟩ := hq.row
  have hoff' := hfr.off (h0.trans hq.sub) hoff
  -- the slice's block is none of the heap's
  have inF : ∀ a, oa = some a → ∃ o, F a.block = some o := fun a ha => by subst ha; exact hF.blk
  have ne1 : ∀ a, oa = some a → a.block ≠ k := fun a ha e => by obtain ⟨o, h1⟩ := inF a ha; rw [e, hq.off] at h1; cases h1
  have ne2 : ∀ a, oa' = some a → a.block ≠ k := hfr.ne hb ne1
  have hbk : ∀ b, ob = some b → ∃ o, H b.block = some o := fun b hb' => by subst hb'; exact ho.blk
  have ne3 : ∀ b, ob = some b → ∀ a, oa = some a → a.block ≠ b.block := fun b hb' a ha e => by
    obtain ⟨o, h1⟩ := inF a ha
    rw [e, hof b hb'] at h1; cases h1
  have ne4 : ∀ b, ob = some b → ∀ a, oa' = some a → a.block ≠ b.block := fun b hb' => by
    obtain ⟨o, h1⟩ := hbk b hb'
    exact hfr.ne h1 (ne3 b hb')
  refine ⟨F', ⟨fun q o hq' => g4 q o (h0.le _ _ hq') fun a ha e => by rw [e, hoff a ha] at hq'; cases hq'⟩, ⟨g1, g3 k hq.off fun a ha e => ne2 a ha e.symm, ob, m, q, hf.bx hb ne1, ?_, ?_, hne⟩, ?_, hoff'⟩
  · exact Owns.mono ho fun b o hb' h1 => hf _ _ h1 fun a ha e => ne3 b hb' a ha e.symm
  · exact fun b hb' => g3 _ (hof b hb') fun a ha e => ne4 b hb' a ha e.symm
  · exact Owns.mono how fun a o ha h1 => by rw [g2 a ha]; exact h1
theorem some_ok {F H : PHeap} {k : Nat} {l : List Int} (h : Hq F H k l) : Triple Tryz.prog 102 #[hv k] H fun v H' => v = .bool (!l.isEmpty) ∧ H' = H := by
  refine some.vc (hv k) H _ (len_ok h ⟨_, rfl, ?_, rfl⟩)
  congr 1
  cases l with
  | nil => rfl
  | cons x xs => simp
theorem rest_ok {H : PHeap} {oa ob : Option Addr} {n c m d : Nat} {l w : List Int} (hl : RdL H iE 1 oa n l) (hw : RdL H iE 1 ob m w) (hn : n ≤ 100000) (hm : m ≤ 100000) :
    Triple Tryz.prog 61 #[.slice oa n c, .slice ob m d] H fun v H' => ∃ b k q, v = .slice b k q ∧ OwnL H' 3 iE 1 b k q (restL l w) ∧ Sub H H' ∧ Off H b := by
  have hll := hl.len
  refine rest.vc oa n c ob m d H _ fun k7 hk7 k8 hk8 => ?_
  have hne78 : k7 ≠ k8 := fun e => by rw [← e, upd_eq] at hk8; cases hk8
  have hk8' : H k8 = none := by rw [Vx.upd_ne _ _ hne78.symm] at hk8; exact hk8
  have s7 := Sub.upd (.cells #[] 3 (0, 0)) hk7
  have s8 := Sub.upd (.cells #[Value.slice (at0 k7) 0 0] 139 (0, 0)) hk8
  have hq0 : Hq H ((H.upd k7 (.cells #[] 3 (0, 0))).upd k8 (.cells #[Value.slice (at0 k7) 0 0] 139 (0, 0))) k8 [] :=
    ⟨s7.trans s8, hk8', at0 k7, 0, 0, Bx.new _ k8 _ _, Owns.mono (Owns.empty H k7 3 1) fun a o _ hb => s8.le _ _ hb, off_at0 hk7, fun a ha => by cases ha; exact hne78⟩
  refine ⟨fun t H' => match t with | [.int _ i] => 0 ≤ i ∧ i ≤ n ∧ ∃ h, Hq H H' k8 h ∧ Hn h h.length ∧ h.length ≤ i.toNat ∧ ∀ x, x ∈ h ↔ x ∈ l.take i.toNat ∧ x ∉ w | _ => False, fun t _ => match t with | [.int _ i] => (n - i).toNat | _ => 0,
    ⟨by omega, by omega, [], hq0, fun c c0 c1 => by simp at c1, by simp, by simp⟩, ?_⟩
  rintro i H12 ⟨i0, i1, h, hq, hhn, hhl, hmem⟩
  obtain ⟨i, rfl⟩ : ∃ j : Nat, i = j := ⟨i.toNat, by omega⟩
  rw [Int.toNat_natCast] at hhl hmem
  refine ⟨fun hi => ?_, fun hi => ?_⟩
  · have hi' : i < n := by simpa using hi
    have hl12 := hl.mono hq.sub
    obtain ⟨x, hx, hxr⟩ := hl12.ex (i := (i : Int)) (by omega) (by omega)
    rw [Int.toNat_natCast] at hx
    have htk : l.take (i + 1) = l.take i ++ [x] := by rw [List.take_add_one, hx]; rfl
    refine ⟨hl12.ob (by omega) (by omega), x, hxr, (Rnd.contains_ok (hw.mono hq.sub) hm).mono ?_⟩
    rintro _ _ ⟨rfl, rfl⟩
    rw [show IntKind.i64.wrap ((i : Int) + 1) = (i : Int) + 1 from Rnd.wrapS (by omega) (by omega)]
    refine ⟨_, rfl, fun e => ?_, fun e => ?_⟩
    · have hxw : x ∉ w := by simpa using e
      refine (hpush_ok (x := x) hq hhn (by omega)).mono ?_
      rintro _ H18 ⟨rfl, h', q', n', l', m'⟩
      refine ⟨rfl, ⟨by omega, by omega, h', q', n', by omega, fun y => ?_⟩, ⟨by simp only; omega⟩⟩
      rw [m', hmem, show ((i : Int) + 1).toNat = i + 1 by omega, htk, List.mem_append, List.mem_singleton]
      constructor
      · rintro (⟨h1, h2⟩ | rfl)
        · exact ⟨.inl h1, h2⟩
        · exact ⟨.inr rfl, hxw⟩
      · rintro ⟨h1 | rfl, h2⟩
        · exact .inl ⟨h1, h2⟩
        · exact .inr rfl
    · have hxw : x ∈ w := by simpa using e
      refine ⟨⟨by omega, by omega, h, hq, hhn, by omega, fun y => ?_⟩, ⟨by simp only; omega⟩⟩
      rw [hmem, show ((i : Int) + 1).toNat = i + 1 by omega, htk, List.mem_append, List.mem_singleton]
      constructor
      · rintro ⟨h1, h2⟩; exact ⟨.inl h1, h2⟩
      · rintro ⟨h1 | rfl, h2⟩
        · exact ⟨h1, h2⟩
        · exact absurd hxw h2
  · have hi' : ¬ i < n := by simpa using hi
    rw [List.take_of_length_le (by omega)] at hmem
    have hset : ∀ x, x ∈ h ↔ x ∈ restL l w := fun x => by rw [hmem, (restL_spec l w).2]
    refine ⟨fun t H' => match t with | [.slice a k q] => ∃ F h o, Sub H F ∧ Hq F H' k8 h ∧ Hn h h.length ∧ OwnL F 3 iE 1 a k q o ∧ Off H a ∧ Asc o ∧ (∀ y ∈ o, ∀ x ∈ h, y ≤ x) ∧ (∀ x, x ∈ restL l w ↔ x ∈ o ∨ x ∈ h) ∧ h.length + o.length ≤ 100000 | _ => False,
      fun t H' => match t with | [.slice _ _ _] => (match H' k8 with | some (.cells c _ _) => (match c.toList with | [.slice _ n _] => n | _ => 0) | _ => 0) | _ => 0,
      ⟨H, h, [], Sub.refl _, hq, hhn, Owns.nil _ _ 1, Off.none _, List.Pairwise.nil, by simp, fun x => by rw [← hset]; simp, by simp; omega⟩, ?_⟩
    rintro a k q H24 ⟨F, h2, o, sF, q2, n2, how, hoff, hasc, hle, hmm, hlen⟩
    -- how many there are, in the block
    have meas : ∀ {F H' : PHeap} {h : List Int}, Hq F H' k8 h → (match H' k8 with | some (.cells c _ _) => (match c.toList with | [.slice _ n _] => n | _ => 0) | _ => 0) = h.length := by
      intro F H' h hq
      obtain ⟨oa, n, c, hb, ho, _, _⟩ := hq.row
      have hr := (ho.rd (E := iE) (sz := 1) (by omega) iLen).len
      unfold Bx at hb
      rw [hb]
      simpa using hr.symm
    refine (some_ok q2).mono ?_
    rintro _ H26 ⟨rfl, hH⟩
    obtain rfl := hH.symm
    refine ⟨_, rfl, fun e => ?_, fun e => ?_⟩
    · have hne : h2 ≠ [] := fun e' => by rw [e'] at e; simp at e
      have hpos : 0 < h2.length := List.length_pos_iff.2 hne
      obtain ⟨oa2, n3, c3, hb2, ho2, hof2, hne2⟩ := q2.row
      have hr2 := ho2.rd (E := iE) (sz := 1) (by omega) iLen
      have hn3 := hr2.len
      have h0 : Reads H24 (elemA oa2 0 1) [vI (G h2 0)] := hr2.at (i := 0) (by omega) (by simpa using G_lt (l := h2) (i := 0) hpos)
      refine ⟨obP k8, oa2, n3, c3, hb2.reads, hr2.ob (by omega) (by omega), G h2 0, h0, (hpop_ok q2 n2 hne (by omega)).mono ?_⟩
      rintro _ H33 ⟨rfl, h3, q3, n3', l3, m3⟩
      have hleast : ∀ x ∈ h3, G h2 0 ≤ x := fun x hx => by
        obtain ⟨c, hc, rfl⟩ := mem_G.1 ((m3 x).2 (.inl hx))
        exact root_least n2 c hc
      have hG : G h2 0 ∈ h2 := mem_G.2 ⟨0, hpos, rfl⟩
      have hoG : ∀ y ∈ o, y ≤ G h2 0 := fun y hy => hle y hy _ hG
      obtain ⟨p1, p2⟩ := popI_asc hasc hoG
      have hrd := how.rd (E := iE) (sz := 1) (by omega) iLen
      have hok := hrd.len
      have lt3 : Less (match H33 k8 with | some (.cells c _ _) => (match c.toList with | [.slice _ n _] => n | _ => 0) | _ => 0) (match H24 k8 with | some (.cells c _ _) => (match c.toList with | [.slice _ n _] => n | _ => 0) | _ => 0) := ⟨by rw [meas q3, meas q2]; omega⟩
      -- what holds of the next ones
      have next : ∀ {F' H' : PHeap} {a' : Option Addr} {k' q' : Nat} {o' : List Int}, Sub H F' → Hq F' H' k8 h3 → OwnL F' 3 iE 1 a' k' q' o' → Off H a' → o' = popI o (G h2 0) → o'.length ≤ o.length + 1 →
          (∃ F h o, Sub H F ∧ Hq F H' k8 h ∧ Hn h h.length ∧ OwnL F 3 iE 1 a' k' q' o ∧ Off H a' ∧ Asc o ∧ (∀ y ∈ o, ∀ x ∈ h, y ≤ x) ∧ (∀ x, x ∈ restL l w ↔ x ∈ o ∨ x ∈ h) ∧ h.length + o.length ≤ 100000) := by
        intro F' H' a' k' q' o' g1 g2 g3 g4 g5 g6
        subst g5
        refine ⟨F', h3, _, g1, g2, n3', g3, g4, p1, fun y hy x hx => ?_, fun x => ?_, by omega⟩
        · rcases (p2 y).1 hy with hy | rfl
          · exact Int.le_trans (hoG y hy) (hleast x hx)
          · exact hleast x hx
        · rw [hmm, p2, m3]
          constructor
          · rintro (h | h | h)
            · exact .inl (.inl h)
            · exact .inr h
            · exact .inl (.inr h)
          · rintro ((h | h) | h)
            · exact .inl h
            · exact .inr (.inr h)
            · exact .inr (.inl h)
      have app : ∀ {k36 : Nat}, H33 k36 = none → o.getLast? ≠ some (G h2 0) → EvV Tryz.prog (Builtin.append_ #[42, 42] 42 #[.slice a k q, .slice (at0 k36) 1 1]) (H33.upd k36 (.cells #[vI (G h2 0)] 3 (0, 0))) fun v H38 => ∃ a' k' q', v = .slice a' k' q' ∧
          (∃ F h o, Sub H F ∧ Hq F H38 k8 h ∧ Hn h h.length ∧ OwnL F 3 iE 1 a' k' q' o ∧ Off H a' ∧ Asc o ∧ (∀ y ∈ o, ∀ x ∈ h, y ≤ x) ∧ (∀ x, x ∈ restL l w ↔ x ∈ o ∨ x ∈ h) ∧ h.length + o.length ≤ 100000) ∧
          Less (match H38 k8 with | some (.cells c _ _) => (match c.toList with | [.slice _ n _] => n | _ => 0) | _ => 0) (match H24 k8 with | some (.cells c _ _) => (match c.toList with | [.slice _ n _] => n | _ => 0) | _ => 0) := by
        intro k36 hk36 hlast
        refine append_one Rnd.tI (E := iE) (l := o) (x := G h2 0) hk36 iLen (Owns.mono how fun _ o _ hb => q3.sub.le _ _ hb) rfl (iOne _) (by simp [maxLen]; omega) (by omega) ?_
        intro a' q' H38 how' hf hfr _
        obtain ⟨F', f1, f2, f3, f4⟩ := q3.app how hf hfr how' sF hoff
        exact ⟨a', _, q', rfl, next f1 f2 f3 f4 (by unfold popI; rw [if_neg hlast]) (by simp), ⟨by rw [meas f2, meas q2]; omega⟩⟩
      refine ⟨_, rfl, fun e => ?_, fun e k42 hk42 => ?_⟩
      · have hk0 : k ≠ 0 := by simpa using e
        rw [show IntKind.i64.wrap ((k : Int) - 1) = ((k - 1 : Nat) : Int) by rw [wrap64 (by omega) (by omega)]; omega]
        have hrd3 := hrd.mono q3.sub
        obtain ⟨y, hy, hyr⟩ := hrd3.ex (i := ((k - 1 : Nat) : Int)) (by omega) (by omega)
        rw [Int.toNat_natCast] at hy
        have hlast : o.getLast? = some y := by rw [List.getLast?_eq_getElem?, hok]; exact hy
        refine ⟨hrd3.ob (by omega) (by omega), y, hyr, fun e => fun k36 hk36 => app hk36 (by rw [hlast]; intro e'; injection e' with e'; simp [e'] at e), fun e => ?_⟩
        have hyG : y = G h2 0 := by simpa using e
        exact ⟨next sF q3 how hoff (by unfold popI; rw [if_pos (by rw [hlast, hyG])]) (by omega), lt3⟩
      · have hk0 : k = 0 := by simpa using e
        have ho0 : o = [] := List.eq_nil_of_length_eq_zero (by omega)
        exact app hk42 (by rw [ho0]; simp)
    · have hemp : h2 = [] := by simpa using e
      subst hemp
      have heq : o = restL l w := asc_ext hasc (restL_spec l w).1 fun x => by rw [hmm]; simp
      subst heq
      exact ⟨a, k, q, rfl, Owns.mono how fun _ o _ hb => q2.sub.le _ _ hb, sF.trans q2.sub, hoff⟩
theorem has_ok {H : PHeap} {oa : Option Addr} {n c : Nat} {l : List Int} {x : Int} (hl : RdL H iE 1 oa n l) (hn : n ≤ 1000000) :
    Triple Tryz.prog 47 #[.slice oa n c, vI x] H fun v H' => v = .bool (decide (x ∈ l)) ∧ H' = H := by
  have hll := hl.len
  refine refHasD.vc oa n c x H _ ⟨fun t H' => match t with | [.int _ i] => 0 ≤ i ∧ i ≤ n ∧ H' = H ∧ x ∉ l.take i.toNat | _ => False, fun t _ => match t with | [.int _ i] => (n - i).toNat | _ => 0, ⟨by omega, by omega, rfl, by simp⟩, ?_⟩
  rintro i H1 ⟨i0, i1, rfl, hno⟩
  obtain ⟨i, rfl⟩ : ∃ j : Nat, i = j := ⟨i.toNat, by omega⟩
  rw [Int.toNat_natCast] at hno
  refine ⟨fun hi => ?_, fun hi => ?_⟩
  · have hi' : i < n := by simpa using hi
    obtain ⟨y, hy, hyr⟩ := hl.ex (i := (i : Int)) (by omega) (by omega)
    rw [Int.toNat_natCast] at hy
    refine ⟨hl.ob (by omega) (by omega), y, hyr, fun he => ⟨?_, rfl⟩, fun he => ?_⟩
    · have : y = x := by simpa using he
      have h1 : x ∈ l := by rw [← this]; exact List.mem_of_getElem? hy
      simp [h1]
    · rw [Rnd.wrapS (by omega) (by omega)]
      refine ⟨⟨by omega, by omega, rfl, ?_⟩, ⟨by simp only; omega⟩⟩
      have hne : y ≠ x := by simpa using he
      rw [show ((i : Int) + 1).toNat = i + 1 by omega, List.take_add_one, hy]
      simp only [List.mem_append, not_or]
      exact ⟨hno, by simpa using fun e => hne e.symm⟩
  · have : ¬ i < n := by simpa using hi
    rw [List.take_of_length_le (by omega)] at hno
    exact ⟨by simp [hno], rfl⟩
theorem put_tail {H : PHeap} {oa : Option Addr} {n c i : Nat} {l : List Int} {x : Int} {K : Option Addr → Nat → Nat → PHeap → Prop} (hl : RdL H iE 1 oa n l) (hi : i ≤ n) (hc : n ≤ c) (hn : n ≤ 100000)
    (hK : ∀ b m k H', RdL H' iE 1 b m (l.take i ++ x :: l.drop i) → m ≤ k → Sub H H' → K b m k H') :
    Ob (0 ≤ (i : Int) ∧ (i : Int) ≤ (n : Int) ∧ (n : Int) ≤ (c : Int)) ∧ ∀ (k14 : Nat), H k14 = none →
      EvV Tryz.prog (Builtin.append_ #[42, 42] 42 #[.slice (at0 k14) 1 1, .slice (slA oa i c 1) ((n : Int).toNat - (i : Int).toNat) (c - (i : Int).toNat)]) (H.upd k14 (.cells #[vI x] 3)) fun v15 H16 =>
        ∃ a17 k18 k19, v15 = Value.slice a17 k18 k19 ∧ ∀ (k20 : Nat), H16 k20 = none → Ob ((0 : Int) ≤ 0 ∧ 0 ≤ (i : Int) ∧ (i : Int) ≤ (c : Int)) ∧
          EvV Tryz.prog (Builtin.append_ #[42, 42] 42 #[.slice (at0 k20) 0 0, .slice (slA oa 0 c 1) ((i : Int).toNat - Int.toNat 0) (c - Int.toNat 0)]) (H16.upd k20 (.cells #[] 3)) fun v21 H22 =>
            ∃ a23 k24 k25, v21 = Value.slice a23 k24 k25 ∧
              EvV Tryz.prog (Builtin.append_ #[42, 42] 42 #[.slice a23 k24 k25, .slice a17 k18 k19]) H22 fun v26 H27 =>
                ∃ a28 k29 k30, v26 = Value.slice a28 k29 k30 ∧ K a28 k29 k30 H27 := by
  refine ⟨⟨by omega, by omega, by omega⟩, fun k1 hk1 => ?_⟩
  simp only [slA_zero, Int.toNat_natCast, Int.toNat_zero, Nat.sub_zero]
  have hs1 := Sub.upd (.cells #[vI x] 3 (0, 0)) hk1
  have ho1 := off_at0 hk1
  have own1 : OwnL (H.upd k1 (.cells #[vI x] 3 (0, 0))) 3 iE 1 (at0 k1) 1 1 [x] := ⟨rfl, .inr ⟨k1, #[vI x], rfl, upd_eq .., by omega, by simp [maxLen], rfl, rfl⟩⟩
  refine append_rd Rnd.tI (E := iE) (l := [x]) iLen own1 ((hl.drop hi hc).mono hs1) iOne (by simp [maxLen]; omega) (by omega) ?_
  intro b2 c2 H2 g2 hf2 hfr2
  refine ⟨b2, _, c2, rfl, fun k3 hk3 => ⟨⟨by omega, by omega, by omega⟩, ?_⟩⟩
  have hs2 := hf2.sub hs1 ho1
  have hs3 := Sub.upd (.cells #[] 3 (0, 0)) hk3
  refine append_rd Rnd.tI (E := iE) (l := []) iLen (Owns.empty H2 k3 _ 1) ((hl.take hi).mono (hs2.trans hs3)) iOne (by simp [maxLen]; omega) (by omega) ?_
  intro b4 c4 H4 g4 hf4 hfr4
  rw [Nat.zero_add] at g4 ⊢
  rw [List.nil_append] at g4
  have hs4 := hf4.sub hs3 (off_at0 hk3)
  have ho4 := hfr4.off hs3 (off_at0 hk3)
  refine ⟨b4, i, c4, rfl, append_rd Rnd.tI (E := iE) iLen g4 ((g2.rd (E := iE) (sz := 1) (by omega) iLen).mono hs4) iOne (by simp [maxLen]; omega) (by omega) ?_⟩
  intro b5 c5 H5 g5 hf5 hfr5
  exact ⟨b5, _, c5, rfl, hK _ _ _ _ (g5.rd (E := iE) (sz := 1) (by omega) iLen) g5.le (hs2.trans (hf5.sub hs4 ho4))⟩
theorem tw_len {l : List Int} {x : Int} {i : Nat} (h1 : ∀ j y, j < i → l[j]? = some y → y < x) (h2 : i ≤ l.length) (h3 : ∀ y, l[i]? = some y → ¬ y < x) : l.takeWhile (· < x) = l.take i ∧ l.dropWhile (· < x) = l.drop i := by
  induction l generalizing i with
  | nil => simp
  | cons y ys ih =>
    cases i with
    | zero =>
      have := h3 y rfl
      simp [List.takeWhile_cons, List.dropWhile_cons, this]
    | succ i =>
      have hy := h1 0 y (by omega) rfl
      obtain ⟨g1, g2⟩ := ih (i := i) (fun j z hj hz => h1 (j + 1) z (by omega) (by simpa using hz)) (by simpa using h2) (fun z hz => h3 z (by simpa using hz))
      simp [List.takeWhile_cons, List.dropWhile_cons, hy, g1, g2]
theorem restL_snoc (l w : List Int) (x : Int) : restL (l ++ [x]) w = if x ∈ w then restL l w else addI (restL l w) x := by
  unfold restL
  rw [List.filter_append, List.foldl_append]
  by_cases h : x ∈ w
  · simp [h]
  · simp [h]
theorem refRest_ok {H : PHeap} {oa ob : Option Addr} {n c m d : Nat} {l w : List Int} (hl : RdL H iE 1 oa n l) (hw : RdL H iE 1 ob m w) (hn : n ≤ 100000) (hm : m ≤ 100000) :
    Triple Tryz.prog 113 #[.slice oa n c, .slice ob m d] H fun v H' => ∃ b k q, v = .slice b k q ∧ RdL H' iE 1 b k (restL l w) ∧ k ≤ q ∧ Sub H H' := by
  have hll := hl.len
  refine refRest.vc oa n c ob m d H _ ⟨fun t H' => match t with | [.slice a k q, .int _ i] => 0 ≤ i ∧ i ≤ n ∧ k ≤ q ∧ Sub H H' ∧ RdL H' iE 1 a k (restL (l.take i.toNat) w) | _ => False, fun t _ => match t with | [_, .int _ i] => (n - i).toNat | _ => 0,
    ⟨by omega, by omega, Nat.le_refl _, Sub.refl _, RdL.nil _ _ _⟩, ?_⟩
  rintro a k q i H13 ⟨i0, i1, hkq, hs, hrd⟩
  obtain ⟨i, rfl⟩ : ∃ j : Nat, i = j := ⟨i.toNat, by omega⟩
  rw [Int.toNat_natCast] at hrd
  refine ⟨fun hi => ?_, fun hi => ?_⟩
  · have hi' : i < n := by simpa using hi
    have hl13 := hl.mono hs
    obtain ⟨x, hx, hxr⟩ := hl13.ex (i := (i : Int)) (by omega) (by omega)
    rw [Int.toNat_natCast] at hx
    have htk : l.take (i + 1) = l.take i ++ [x] := by rw [List.take_add_one, hx]; rfl
    have hrl := hrd.len
    have hlen := restL_len (l.take i) w
    rw [List.length_take] at hlen
    have next : restL (l.take ((i : Int) + 1).toNat) w = if x ∈ w then restL (l.take i) w else addI (restL (l.take i) w) x := by
      rw [show ((i : Int) + 1).toNat = i + 1 by omega, htk, restL_snoc]
    rw [show IntKind.i64.wrap ((i : Int) + 1) = (i : Int) + 1 from Rnd.wrapS (by omega) (by omega)]
    refine ⟨hl13.ob (by omega) (by omega), x, hxr, (has_ok (hw.mono hs) (by omega)).mono ?_⟩
    rintro _ H16 ⟨rfl, hH⟩
    obtain rfl := hH.symm
    refine ⟨_, rfl, fun e => ⟨hl13.ob (by omega) (by omega), x, hxr, (has_ok hrd (by omega)).mono ?_⟩, fun e => ?_⟩
    · have hxw : x ∉ w := by simpa using e
      rw [if_neg hxw] at next
      rintro _ H20 ⟨rfl, hH⟩
      obtain rfl := hH.symm
      refine ⟨_, rfl, fun e => ?_, fun e => ?_⟩
      · have hxo : x ∈ restL (l.take i) w := by simpa using e
        have : addI (restL (l.take i) w) x = restL (l.take i) w := by unfold addI; rw [if_pos hxo]
        exact ⟨⟨by omega, by omega, hkq, hs, by rw [next, this]; exact hrd⟩, ⟨by simp only; omega⟩⟩
      · have hxo : x ∉ restL (l.take i) w := by simpa using e
        refine ⟨fun t H' => match t with | [.int _ j] => 0 ≤ j ∧ j ≤ k ∧ H' = H13 ∧ ∀ z y, z < j.toNat → (restL (l.take i) w)[z]? = some y → y < x | _ => False, fun t _ => match t with | [.int _ j] => (k - j).toNat | _ => 0, ⟨by omega, by omega, rfl, fun z y hz => by simp at hz⟩, ?_⟩
        rintro j H25 ⟨j0, j1, hH, hlt⟩
        obtain rfl := hH.symm
        obtain ⟨j, rfl⟩ : ∃ z : Nat, j = z := ⟨j.toNat, by omega⟩
        rw [Int.toNat_natCast] at hlt
        -- it is put in here
        have fin : (∀ y, (restL (l.take i) w)[j]? = some y → ¬ y < x) → ∀ b m' k' H', RdL H' iE 1 b m' ((restL (l.take i) w).take j ++ x :: (restL (l.take i) w).drop j) → m' ≤ k' → Sub H13 H' →
            (0 ≤ (i : Int) + 1 ∧ (i : Int) + 1 ≤ n ∧ m' ≤ k' ∧ Sub H H' ∧ RdL H' iE 1 b m' (restL (l.take ((i : Int) + 1).toNat) w)) ∧ Less ((n - ((i : Int) + 1)).toNat) ((n - (i : Int)).toNat) := by
          intro hst b m' k' H' g1 g2 g3
          obtain ⟨t1, t2⟩ := tw_len hlt (by omega) hst
          have : addI (restL (l.take i) w) x = (restL (l.take i) w).take j ++ x :: (restL (l.take i) w).drop j := by unfold addI; rw [if_neg hxo, t1, t2]
          exact ⟨⟨by omega, by omega, g2, hs.trans g3, by rw [next, this]; exact g1⟩, ⟨by omega⟩⟩
        refine ⟨H13, Sub.refl _, fun hj => ?_, fun hj => ⟨H13, Sub.refl _, hl13.ob (by omega) (by omega), x, hxr, ?_⟩⟩
        · have hj' : j < k := by simpa using hj
          obtain ⟨y, hy, hyr⟩ := hrd.ex (i := (j : Int)) (by omega) (by omega)
          rw [Int.toNat_natCast] at hy
          refine ⟨hrd.ob (by omega) (by omega), y, hyr, hl13.ob (by omega) (by omega), x, hxr, fun e => ?_, fun e => ⟨H13, Sub.refl _, hl13.ob (by omega) (by omega), x, hxr, ?_⟩⟩
          · have hyx : y < x := by simpa using e
            rw [Rnd.wrapS (by omega) (by omega)]
            refine ⟨⟨by omega, by omega, rfl, fun z u hz hu => ?_⟩, ⟨by simp only; omega⟩⟩
            by_cases ez : z = j
            · subst ez; rw [hy] at hu; cases hu; exact hyx
            · exact hlt z u (by omega) hu
          · have hyx : ¬ y < x := by simpa using e
            exact put_tail hrd (by omega) hkq (by omega) (fin fun z hz => by rw [hy] at hz; cases hz; exact hyx)
        · have hj' : ¬ j < k := by simpa using hj
          exact put_tail hrd (by omega) hkq (by omega) (fin fun z hz => by have := (List.getElem?_eq_some_iff.1 hz).1; omega)
    · have hxw : x ∈ w := by simpa using e
      rw [if_pos hxw] at next
      exact ⟨⟨by omega, by omega, hkq, hs, by rw [next]; exact hrd⟩, ⟨by simp only; omega⟩⟩
  · have hi' : ¬ i < n := by simpa using hi
    rw [List.take_of_length_le (by omega)] at hrd
    exact ⟨a, k, q, rfl, hrd, hkq, hs⟩
end Go.Hp
