/- Pages: the contract of a turn, where nobody is suspect. -/
import Derived.Test.YtllbdocjgdnofaaPgA
import Derived.Test.YtllbdocjgdnofaaVxZ
namespace Go.Page
open Go.Vx Go.Vc Go.Proofs Go.Txt Go.Lab

/-! ### How far the names go -/
/-- The least limit: at its end, or a text. -/
def limStep (st : Bool × ByteArray) (s : ByteArray) : Bool × ByteArray := if st.1 || lessS s st.2 then (false, s) else st
def limL (L : List Msg) : Bool × ByteArray := L.foldl (fun st m => if wholeB m then st else limStep st (maxL (names_ m).l)) (true, noS)
def farB (lim : Bool × ByteArray) (s : ByteArray) : Bool := !lim.1 && lessS lim.2 s
/-- The names behind pages. -/
def namesL (lim : Bool × ByteArray) (names : List ByteArray) (L : List Msg) : List ByteArray := L.foldl (fun o m => mergeL (o ++ (names_ m).l.filter fun s => !farB lim s)) names
theorem limL_snoc (L : List Msg) (m : Msg) : limL (L ++ [m]) = if wholeB m then limL L else limStep (limL L) (maxL (names_ m).l) := by simp [limL]
theorem namesL_snoc (lim : Bool × ByteArray) (names : List ByteArray) (L : List Msg) (m : Msg) : namesL lim names (L ++ [m]) = mergeL (namesL lim names L ++ (names_ m).l.filter fun s => !farB lim s) := by simp [namesL]
theorem mergeL_len (l : List ByteArray) : (mergeL l).length ≤ l.length := by
  have := foldl_len l []
  simpa [mergeL] using this
def sumN (L : List Msg) : Nat := (L.map fun m => (names_ m).l.length).sum
theorem namesL_len (lim : Bool × ByteArray) (names : List ByteArray) (L : List Msg) : (namesL lim names L).length ≤ names.length + sumN L := by
  have key : ∀ (L : List Msg) (o : List ByteArray), (L.foldl (fun o m => mergeL (o ++ (names_ m).l.filter fun s => !farB lim s)) o).length ≤ o.length + sumN L := by
    intro L
    induction L with
    | nil => intro o; simp [sumN]
    | cons m ms ih =>
      intro o
      rw [List.foldl_cons]
      have h1 := ih (mergeL (o ++ (names_ m).l.filter fun s => !farB lim s))
      have h2 := mergeL_len (o ++ (names_ m).l.filter fun s => !farB lim s)
      have h3 := List.length_filter_le (fun s => !farB lim s) (names_ m).l
      rw [List.length_append] at h2
      have e : sumN (m :: ms) = (names_ m).l.length + sumN ms := by simp [sumN]
      rw [e]
      omega
  exact key L names
theorem sumN_take (L : List Msg) (i : Nat) : sumN (L.take i) ≤ sumN L := by
  have : sumN L = sumN (L.take i) + sumN (L.drop i) := by
    have e : ∀ (A B : List Msg), sumN (A ++ B) = sumN A + sumN B := fun A B => by unfold sumN; rw [List.map_append, List.sum_append]
    rw [← e, List.take_append_drop]
  omega
theorem limit_ok {H : PHeap} {k5 k6 : Nat} {e : Bool} {least s : ByteArray} (h6 : Bx H k6 4 [.bool e]) (h5 : Bx H k5 9 [.string least]) (hne : k5 ≠ k6) :
    Triple Try.prog 23 #[.string s, .pointer (at0 k6), .pointer (at0 k5)] H fun v H' => v = .tuple #[] ∧ Bx H' k6 4 [.bool (limStep (e, least) s).1] ∧ Bx H' k5 9 [.string (limStep (e, least) s).2] ∧ ∀ q o, q ≠ k5 → q ≠ k6 → H q = some o → H' q = some o := by
  have wr : ∀ {P : PHeap → Prop}, (∀ H', Bx H' k6 4 [.bool false] → Bx H' k5 9 [.string s] → (∀ q o, q ≠ k5 → q ≠ k6 → H q = some o → H' q = some o) → P H') → ∃ H9, Writes H H9 (at0 k5) [.string s] ∧ ∃ H10, Writes H9 H10 (at0 k6) [.bool false] ∧ P H10 := by
    intro P hP
    have h6' := h6.upd_ne (.cells [Value.string s].toArray 9 (0, 0)) hne.symm
    refine ⟨_, h5.writes [.string s] rfl, _, h6'.writes [.bool false] rfl, hP _ (Bx.new _ _ _ _) ((Bx.new H k5 9 [.string s]).upd_ne _ hne) fun q o h1 h2 hq => ?_⟩
    rw [Vx.upd_ne _ _ h2, Vx.upd_ne _ _ h1]; exact hq
  refine pTurn1.vc s (at0 k6) (at0 k5) H _ ⟨e, h6.reads, fun he => ⟨least, h5.reads, (less_ok s least).use ⟨_, rfl, fun hl => wr fun H' g1 g2 g3 => ?_, fun hl => ?_⟩⟩, fun he => wr fun H' g1 g2 g3 => ?_⟩
  · have e1 : limStep (e, least) s = (false, s) := by simp [limStep, hl]
    rw [e1]; exact ⟨rfl, g1, g2, g3⟩
  · have e1 : limStep (e, least) s = (e, least) := by simp [limStep, he, hl]
    rw [e1]; exact ⟨rfl, h6, h5, fun _ _ _ _ h => h⟩
  · have e' : e = true := by simpa using he
    have e1 : limStep (e, least) s = (false, s) := by simp [limStep, e']
    rw [e1]; exact ⟨rfl, g1, g2, g3⟩
theorem far_ok' {H : PHeap} {k5 k6 : Nat} {lim : Bool × ByteArray} {s : ByteArray} (h6 : Bx H k6 4 [.bool lim.1]) (h5 : Bx H k5 9 [.string lim.2]) {Q : Value → PHeap → Prop} (hQ : Q (.bool (farB lim s)) H) :
    Triple Try.prog 31 #[.string s, .pointer (at0 k6), .pointer (at0 k5)] H Q := by
  refine pTurn2.vc s (at0 k6) (at0 k5) H Q ⟨lim.1, h6.reads, fun e => ⟨lim.2, h5.reads, (less_ok lim.2 s).use ⟨_, rfl, ?_⟩⟩, fun e => ?_⟩
  · have e' : lim.1 = false := by simpa using e
    have : farB lim s = lessS lim.2 s := by simp [farB, e']
    rwa [this] at hQ
  · have e' : lim.1 = true := by simpa using e
    have : farB lim s = false := by simp [farB, e']
    rwa [this] at hQ

/-! ### A turn -/
/-- The block k holds pages, apart from F, which holds what it reads. -/
structure PgS (F H : PHeap) (k : Nat) (names : List ByteArray) (after : ByteArray) : Prop where
  sub : Sub F H
  off : F k = none
  row : ∃ oa n c, Bx H k 31 [.slice oa n c, .string after, .slice none 0 0] ∧ RdL F sE 1 oa n names
theorem PgS.mono {F H H' : PHeap} {k : Nat} {names : List ByteArray} {after : ByteArray} (h : PgS F H k names after) (hs : Sub H H') : PgS F H' k names after := by
  obtain ⟨oa, n, c, h1, h2⟩ := h.row
  exact ⟨h.sub.trans hs, h.off, oa, n, c, h1.sub hs, h2⟩
theorem PgS.new (H : PHeap) {k : Nat} (hk : H k = none) : PgS H (H.upd k (.cells #[.slice none 0 0, .string noS, .slice none 0 0] 31)) k [] noS :=
  ⟨Sub.upd _ hk, hk, none, 0, 0, Bx.new H k _ _, RdL.nil _ _ _⟩
theorem after_okP {F H : PHeap} {k : Nat} {names : List ByteArray} {after : ByteArray} (h : PgS F H k names after) :
    Triple Try.prog 11 #[.pointer (at0 k)] H fun v H' => v = .string after ∧ H' = H := by
  obtain ⟨oa, n, c, h1, h2⟩ := h.row
  exact pAfter.vc (at0 k) H _ ⟨fun e => by simp [at0] at e, fun _ => ⟨obP k, obP k, after, h1.fld rfl, rfl, rfl⟩⟩
theorem names_okP {F H : PHeap} {k : Nat} {names : List ByteArray} {after : ByteArray} (h : PgS F H k names after) (hn : names.length ≤ 100000) :
    Triple Try.prog 14 #[.pointer (at0 k)] H fun v H' => ∃ b n c, v = .slice b n c ∧ RdL H' sE 1 b n names ∧ Sub H H' := by
  obtain ⟨oa, n, c, h1, h2⟩ := h.row
  have hl := h2.len
  refine pNames.vc (at0 k) H _ ⟨fun e => by simp [at0] at e, fun _ => ⟨obP k, obP k, oa, n, c, h1.fld rfl, (cloneS_ok (h2.mono h.sub) (by omega)).mono ?_⟩⟩
  rintro _ H' ⟨b, q, rfl, g1, g2, _⟩
  exact ⟨b, n, q, rfl, b, n, q, rfl, g1.rd (E := sE) (sz := 1) (by omega) sLen, g2⟩
theorem turn_ok {F H : PHeap} {k : Nat} {names : List ByteArray} {after : ByteArray} {oa : Option Addr} {n c : Nat} {L : List Msg} (h : PgS F H k names after) (hl : RdL F mE 13 oa n L) (hok : ∀ m ∈ L, OkP F m) (hsus : ∀ m ∈ L, stateL m ≠ 2)
    (hn : n ≤ 100) (hsum : names.length + sumN (L.filter fun m => kind_ m == 20) ≤ 100000) :
    Triple Try.prog 12 #[.pointer (at0 k), .slice oa n c] H fun v H' => v = .bool (limL (L.filter fun m => kind_ m == 20)).1 ∧
      ∃ F', Sub F F' ∧ PgS F' H' k (namesL (limL (L.filter fun m => kind_ m == 20)) names (L.filter fun m => kind_ m == 20)) (if (limL (L.filter fun m => kind_ m == 20)).1 then after else (limL (L.filter fun m => kind_ m == 20)).2) := by
  refine pTurn.vc (at0 k) oa n c H _ ⟨fun e => by simp [at0] at e, fun _ k5 hk5 k6 hk6 => ?_⟩
  obtain ⟨oan, nn, cn, hb, hnm⟩ := h.row
  have hk5k : k5 ≠ k := fun e => by unfold Bx at hb; rw [e, hb] at hk5; cases hk5
  have s5 := Sub.upd (.cells #[.string noS] 9 (0, 0)) hk5
  have c5 : Bx (H.upd k5 (.cells #[.string noS] 9 (0, 0))) k5 9 [.string noS] := Bx.new H k5 9 [.string noS]
  have hb1 := hb.sub s5
  generalize H.upd k5 (.cells #[.string noS] 9) = H1 at *
  have hk6k : k6 ≠ k := fun e => by unfold Bx at hb1; rw [e, hb1] at hk6; cases hk6
  have hk56 : k5 ≠ k6 := fun e => by have := c5; unfold Bx at this; rw [e, hk6] at this; cases this
  have s6 := Sub.upd (.cells #[.bool false] 4 (0, 0)) hk6
  have c6 : Bx (H1.upd k6 (.cells #[.bool false] 4 (0, 0))) k6 4 [.bool false] := Bx.new H1 k6 4 [.bool false]
  have c5' := c5.sub s6
  have hb2 := hb1.sub s6
  have s12 := s5.trans s6
  generalize H1.upd k6 (.cells #[.bool false] 4) = H2 at *
  have c6' := c6.upd_ne (.cells [Value.string noS].toArray 9 (0, 0)) hk56.symm
  refine ⟨_, c5'.writes [.string noS] rfl, _, c6'.writes [.bool true] rfl, ?_⟩
  have g5 : Bx ((H2.upd k5 (.cells [Value.string noS].toArray 9 (0, 0))).upd k6 (.cells [Value.bool true].toArray 4 (0, 0))) k5 9 [.string noS] := (Bx.new H2 k5 9 [.string noS]).upd_ne _ hk56
  have g6 := Bx.new (H2.upd k5 (.cells [Value.string noS].toArray 9 (0, 0))) k6 4 [.bool true]
  have s8 : Sub H ((H2.upd k5 (.cells [Value.string noS].toArray 9 (0, 0))).upd k6 (.cells [Value.bool true].toArray 4 (0, 0))) := Bx.sub_of (Bx.sub_of s12 hk5) (s5.none hk6)
  generalize (H2.upd k5 (.cells [Value.string noS].toArray 9 (0, 0))).upd k6 (.cells [Value.bool true].toArray 4 (0, 0)) = H8 at *
  have hbk := hb.sub s8
  refine (listed_ok (hl.mono (h.sub.trans s8)) (by omega)).mono ?_
  rintro _ H10 ⟨a11, k12, k13, rfl, hL10, s10, off11⟩
  generalize hLdef : (L.filter fun m => kind_ m == 20) = Lf at *
  have hokL : ∀ m ∈ Lf, OkP F m ∧ stateL m ≠ 2 := fun m hm => by
    rw [← hLdef] at hm
    have := (List.mem_filter.1 hm).1
    exact ⟨hok m this, hsus m this⟩
  have hLl := hL10.len
  have hLn : k12 ≤ n := by
    have h1 := List.length_filter_le (fun m => kind_ m == 20) L
    rw [hLdef, hLl, hl.len] at h1; exact h1
  -- what stays
  have hFks : ∀ q ∈ [k, k5, k6], F q = none := by
    intro q hq
    simp at hq
    rcases hq with rfl | rfl | rfl
    · exact h.off
    · exact h.sub.none hk5
    · exact h.sub.none (s5.none hk6)
  have hF10 : Sub F (rest H10 [k, k5, k6]) := rest_le (h.sub.trans (s8.trans s10)) hFks
  have hLF : RdL (rest H10 [k, k5, k6]) mE 13 a11 k12 Lf := hL10.rest fun a ha => by
    simp only [List.mem_cons, List.not_mem_nil, or_false, not_or]
    exact ⟨off11.ne hbk a ha, off11.ne g5 a ha, off11.ne g6 a ha⟩
  have hrk : rest H10 [k, k5, k6] k = none := rest_none (by simp)
  have hr5 : rest H10 [k, k5, k6] k5 = none := rest_none (by simp)
  have hr6 : rest H10 [k, k5, k6] k6 = none := rest_none (by simp)
  have hrs := rest_sub H10 [k, k5, k6]
  have hbk10 := hbk.sub s10
  have g510 := g5.sub s10
  have g610 := g6.sub s10
  generalize rest H10 [k, k5, k6] = G at *
  refine ⟨a11, k12, k13, rfl, fun t H' => match t with | [.int _ i] => 0 ≤ i ∧ i ≤ k12 ∧ Sub G H' ∧ Bx H' k 31 [.slice oan nn cn, .string after, .slice none 0 0] ∧ Bx H' k6 4 [.bool (limL (Lf.take i.toNat)).1] ∧ Bx H' k5 9 [.string (limL (Lf.take i.toNat)).2] | _ => False,
    fun t _ => match t with | [.int _ i] => (k12 - i).toNat | _ => 0, ⟨by omega, by omega, hrs, hbk10, g610, g510⟩, ?_⟩
  rintro i H17 ⟨i0, i1, sG, hbk17, e6, e5⟩
  obtain ⟨i, rfl⟩ : ∃ j : Nat, i = j := ⟨i.toNat, by omega⟩
  rw [Int.toNat_natCast] at e6 e5
  have hL17 := hLF.mono sG
  refine ⟨fun hi => ?_, fun hi => ?_⟩
  · have hi' : i < k12 := by simpa using hi
    obtain ⟨x, hx, hxr⟩ := hL17.ex (i := (i : Int)) (by omega) (by omega)
    rw [Int.toNat_natCast] at hx
    obtain ⟨okx, sx⟩ := hokL x (List.mem_of_getElem? hx)
    have okx17 := (okx.mono hF10).mono sG
    have htk : Lf.take (i + 1) = Lf.take i ++ [x] := by rw [List.take_add_one, hx]; rfl
    have st := state_ok okx17
    have wh := whole_ok okx17
    obtain ⟨y1, y2, y3, y4, y5, y6, y7, y8, y9, y10, ⟨ya, yb, yc, yl⟩, ⟨za, zb, zc, zl⟩, ⟨wa, wb, wc, wl⟩⟩ := x
    refine ⟨hL17.ob (by omega) (by omega), y1, y2, y3, y4, y5, y6, y7, y8, y9, y10, ya, yb, yc, za, zb, zc, wa, wb, wc, hxr, st.mono ?_⟩
    rintro _ _ ⟨rfl, rfl⟩
    refine ⟨_, rfl, fun e => absurd (by simpa using e) sx, fun _ => wh.mono ?_⟩
    rintro _ _ ⟨rfl, rfl⟩
    refine ⟨_, rfl, fun e => ?_, fun e => ?_⟩
    · have e' : wholeB (y1, y2, y3, y4, y5, y6, y7, y8, y9, y10, ⟨ya, yb, yc, yl⟩, ⟨za, zb, zc, zl⟩, ⟨wa, wb, wc, wl⟩) = false := by simpa using e
      have hz : RdL _ sE 1 za zb zl := okx17.names
      have hzl := hz.len
      have hz0 : 0 < zb := by
        rcases Nat.eq_zero_or_pos zb with h0 | h0
        · have : zl = [] := List.eq_nil_of_length_eq_zero (by omega)
          subst this
          simp [wholeB, names_] at e'
        · exact h0
      have hzs : zb ≤ 300 := okx17.small
      refine (maxS_ok hz hz0 (by omega)).mono ?_
      rintro _ _ ⟨rfl, rfl⟩
      refine ⟨_, rfl, (limit_ok e6 e5 hk56).mono ?_⟩
      rintro _ H63 ⟨rfl, f6, f5, hkeep⟩
      have hlim : limL (Lf.take (i + 1)) = limStep (limL (Lf.take i)) (maxL zl) := by rw [htk, limL_snoc, e', if_neg (by simp)]
      rw [wrapS (by omega) (by omega)]
      refine ⟨rfl, ⟨by omega, by omega, ⟨fun q o hq => ?_⟩, ?_, ?_, ?_⟩, ⟨by simp only; omega⟩⟩
      · exact hkeep q o (fun e => by rw [e, hr5] at hq; cases hq) (fun e => by rw [e, hr6] at hq; cases hq) (sG.le _ _ hq)
      · exact hkeep k _ hk5k.symm hk6k.symm hbk17
      · rw [show ((i : Int) + 1).toNat = i + 1 by omega, hlim]; exact f6
      · rw [show ((i : Int) + 1).toNat = i + 1 by omega, hlim]; exact f5
    · have e' : wholeB (y1, y2, y3, y4, y5, y6, y7, y8, y9, y10, ⟨ya, yb, yc, yl⟩, ⟨za, zb, zc, zl⟩, ⟨wa, wb, wc, wl⟩) = true := by simpa using e
      have hlim : limL (Lf.take (i + 1)) = limL (Lf.take i) := by rw [htk, limL_snoc, e', if_pos rfl]
      rw [wrapS (by omega) (by omega)]
      refine ⟨⟨by omega, by omega, sG, hbk17, ?_, ?_⟩, ⟨by simp only; omega⟩⟩
      · rw [show ((i : Int) + 1).toNat = i + 1 by omega, hlim]; exact e6
      · rw [show ((i : Int) + 1).toNat = i + 1 by omega, hlim]; exact e5
  · have hi' : ¬ i < k12 := by simpa using hi
    rw [List.take_of_length_le (by omega)] at e6 e5
    generalize hlimd : limL Lf = lim at *
    refine ⟨fun t H' => match t with | [.int _ i] => 0 ≤ i ∧ i ≤ k12 ∧ ∃ F2 oa2 n2 c2, Sub G F2 ∧ Sub F2 H' ∧ F2 k = none ∧ F2 k5 = none ∧ F2 k6 = none ∧ Bx H' k 31 [.slice oa2 n2 c2, .string after, .slice none 0 0] ∧ RdL F2 sE 1 oa2 n2 (namesL lim names (Lf.take i.toNat)) ∧ Bx H' k6 4 [.bool lim.1] ∧ Bx H' k5 9 [.string lim.2] | _ => False,
      fun t _ => match t with | [.int _ i] => (k12 - i).toNat | _ => 0, ⟨by omega, by omega, G, oan, nn, cn, Sub.refl _, sG, hrk, hr5, hr6, hbk17, by simpa [namesL] using hnm.mono hF10, e6, e5⟩, ?_⟩
    rintro j H75 ⟨j0, j1, F2, oa2, n2, c2, sF2, sH, fk, f5, f6, hbk75, hnm75, e6, e5⟩
    obtain ⟨j, rfl⟩ : ∃ z : Nat, j = z := ⟨j.toNat, by omega⟩
    rw [Int.toNat_natCast] at hnm75
    have hL75 := (hLF.mono sF2).mono sH
    refine ⟨fun hj => ?_, fun hj => ?_⟩
    · have hj' : j < k12 := by simpa using hj
      obtain ⟨x, hx, hxr⟩ := hL75.ex (i := (j : Int)) (by omega) (by omega)
      rw [Int.toNat_natCast] at hx
      obtain ⟨okx, _⟩ := hokL x (List.mem_of_getElem? hx)
      have okx75 := ((okx.mono hF10).mono sF2).mono sH
      have htk : Lf.take (j + 1) = Lf.take j ++ [x] := by rw [List.take_add_one, hx]; rfl
      have hsumj : sumN (Lf.take (j + 1)) ≤ sumN Lf := sumN_take Lf (j + 1)
      have hsx : sumN (Lf.take (j + 1)) = sumN (Lf.take j) + (names_ x).l.length := by rw [htk]; simp [sumN]
      have hnl := namesL_len lim names (Lf.take j)
      have hnew := namesL_snoc lim names (Lf.take j) x
      rw [← htk] at hnew
      obtain ⟨y1, y2, y3, y4, y5, y6, y7, y8, y9, y10, ⟨ya, yb, yc, yl⟩, ⟨za, zb, zc, zl⟩, ⟨wa, wb, wc, wl⟩⟩ := x
      have hz : RdL H75 sE 1 za zb zl := okx75.names
      have hzs : zb ≤ 300 := okx75.small
      have hzl := hz.len
      simp only [names_] at hsx hnew
      refine ⟨hL75.ob (by omega) (by omega), y1, y2, y3, y4, y5, y6, y7, y8, y9, y10, ya, yb, yc, za, zb, zc, wa, wb, wc, hxr, (cloneS_ok hz (by omega)).mono ?_⟩
      rintro _ H96 ⟨b1, q1, rfl, o1, s96, off1⟩
      refine ⟨b1, zb, q1, rfl, (delS_own (p := farB lim) s96 off1 o1 (by omega) fun G1 y Q hs hQ => ?_).mono ?_⟩
      · refine CallY.fn (by kernel_rfl) ?_
        exact far_ok' (e6.sub hs) (e5.sub hs) (hQ G1 (Sub.refl _))
      rintro _ H101 ⟨m2, q2, rfl, r2, s101⟩
      have hbk101 := hbk75.sub s101
      have hm2 := r2.len
      have hfl := List.length_filter_le (fun s => !farB lim s) zl
      have hnml := hnm75.len
      refine ⟨b1, m2, q2, rfl, obP k, obP k, oa2, n2, c2, hbk101.fld rfl, fun k108 hk108 => ?_⟩
      have s108 := Sub.upd (.cells (([⟨oa2, n2, c2, namesL lim names (Lf.take j)⟩, ⟨b1, m2, q2, zl.filter fun s => !farB lim s⟩] : List TT).flatMap Sl.E).toArray 24 (0, 0)) hk108
      have hT : RdT (H101.upd k108 (.cells (([⟨oa2, n2, c2, namesL lim names (Lf.take j)⟩, ⟨b1, m2, q2, zl.filter fun s => !farB lim s⟩] : List TT).flatMap Sl.E).toArray 24 (0, 0))) (at0 k108) 2 [⟨oa2, n2, c2, namesL lim names (Lf.take j)⟩, ⟨b1, m2, q2, zl.filter fun s => !farB lim s⟩] := by
        refine ⟨Bx.rd (E := Sl.E) (sz := 1) (l := ([⟨oa2, n2, c2, namesL lim names (Lf.take j)⟩, ⟨b1, m2, q2, zl.filter fun s => !farB lim s⟩] : List TT)) (fun _ => rfl) (Bx.new H101 k108 24 _), fun p hp => ?_⟩
        simp at hp
        rcases hp with rfl | rfl
        · exact hnm75.mono ((sH.trans s101).trans s108)
        · exact r2.mono s108
      have hall : allT [⟨oa2, n2, c2, namesL lim names (Lf.take j)⟩, ⟨b1, m2, q2, zl.filter fun s => !farB lim s⟩] = namesL lim names (Lf.take j) ++ zl.filter fun s => !farB lim s := by simp [allT]
      refine (merge_own (c := 2) hT (by omega) (fun p hp => by
        simp at hp
        rcases hp with rfl | rfl
        · show n2 ≤ 100000; omega
        · show m2 ≤ 100000; omega) (by rw [hall, List.length_append]; omega)).mono ?_
      rintro _ H110 ⟨b3, m3, q3, R, rfl, r3, hmq, hRr, hRm, s110, off3⟩
      have hR : R = namesL lim names (Lf.take (j + 1)) := by
        rw [hnew]
        refine rising_ext hRr (mergeL_rising _).1 fun x => ?_
        rw [hRm, hall, (mergeL_rising _).2]
      have hsF : Sub F2 H110 := sH.trans (s101.trans (s108.trans s110))
      have s75 := s101.trans (s108.trans s110)
      have hbk110 := hbk75.sub s75
      have e6' := e6.sub s75
      have e5' := e5.sub s75
      rw [wrapS (by omega) (by omega)]
      refine ⟨b3, m3, q3, rfl, obP k, obP k, _, hbk110.put (i := 0) (x := .slice b3 m3 q3) (by simp), ⟨by omega, by omega, rest H110 [k, k5, k6], b3, m3, q3, sF2.trans (rest_le hsF fun q hq => ?_), ?_, rest_none (by simp), rest_none (by simp), rest_none (by simp), Bx.new _ k _ _, ?_, e6'.upd_ne _ hk6k, e5'.upd_ne _ hk5k⟩, ⟨by simp only; omega⟩⟩
      · simp at hq
        rcases hq with rfl | rfl | rfl
        · exact fk
        · exact f5
        · exact f6
      · exact rest_to fun q o hq ho => by rw [Vx.upd_ne _ _ (fun e => hq (by simp [e]))]; exact ho
      · rw [show ((j : Int) + 1).toNat = j + 1 by omega, ← hR]
        have offk := off3.sub s108
        exact r3.rest fun a ha => by
          simp only [List.mem_cons, List.not_mem_nil, or_false, not_or]
          exact ⟨offk.ne hbk101 a ha, offk.ne (e5.sub s101) a ha, offk.ne (e6.sub s101) a ha⟩
    · have hj' : ¬ j < k12 := by simpa using hj
      rw [List.take_of_length_le (by omega)] at hnm75
      refine ⟨lim.1, e6.reads, fun e => ?_, fun e => ?_⟩
      · have e' : lim.1 = false := by simpa using e
        refine ⟨lim.2, e5.reads, obP k, obP k, _, hbk75.put (i := 1) (x := .string lim.2) (by simp), lim.1, (e6.upd_ne _ hk6k).reads, rfl, F2, hF10.trans sF2, ?_⟩
        rw [e', if_neg (by simp)]
        exact ⟨⟨fun q o hq => by rw [Vx.upd_ne _ _ (fun e => by rw [e, fk] at hq; cases hq)]; exact sH.le _ _ hq⟩, fk, oa2, n2, c2, Bx.new _ k _ _, hnm75⟩
      · have e' : lim.1 = true := by simpa using e
        refine ⟨lim.1, e6.reads, rfl, F2, hF10.trans sF2, ?_⟩
        rw [e', if_pos rfl]
        exact ⟨sH, fk, oa2, n2, c2, hbk75, hnm75⟩
end Go.Page
