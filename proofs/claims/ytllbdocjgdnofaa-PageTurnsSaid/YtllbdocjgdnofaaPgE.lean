/- Pages: the contract of a turn, whoever is suspect; whether enough are sound. -/
import Derived.Test.YtllbdocjgdnofaaPgD
import Derived.Test.YtllbdocjgdnofaaHpB
import Derived.Test.YtllbdocjgdnofaaPlnA
namespace Go.Page
open Go.Vx Go.Vc Go.Proofs Go.Txt Go.Lab Go.Hp Go.Pln

abbrev from_ (m : Msg) : Int := m.2.1
/-- Who was suspect, behind pages. -/
def susStep (S : List Int) (m : Msg) : List Int := if stateL m == 2 then restL (S ++ [from_ m]) [] else S
def susL (S : List Int) (L : List Msg) : List Int := L.foldl susStep S
theorem susL_snoc (S : List Int) (L : List Msg) (m : Msg) : susL S (L ++ [m]) = susStep (susL S L) m := by simp [susL]
theorem susStep_len (S : List Int) (m : Msg) : (susStep S m).length ≤ S.length + 1 := by
  unfold susStep
  split
  · have := restL_len (S ++ [from_ m]) []
    simpa using this
  · omega
theorem susL_len (S : List Int) (L : List Msg) : (susL S L).length ≤ S.length + L.length := by
  induction L generalizing S with
  | nil => simp [susL]
  | cons m ms ih =>
    have h1 := ih (susStep S m)
    have h2 := susStep_len S m
    have e : susL S (m :: ms) = susL (susStep S m) ms := rfl
    rw [e, List.length_cons]; omega
/-- The block k holds pages, apart from F, which holds what it reads; who was suspect lies in an array of its own. -/
structure PgT (F H : PHeap) (k : Nat) (names : List ByteArray) (after : ByteArray) (sus : List Int) : Prop where
  sub : Sub F H
  off : F k = none
  row : ∃ oa n c ob m d, Bx H k 31 [.slice oa n c, .string after, .slice ob m d] ∧ RdL F sE 1 oa n names ∧ OwnL H 3 Hp.iE 1 ob m d sus ∧ Off F ob ∧ ∀ a, ob = some a → a.block ≠ k
theorem PgT.mono {F H H' : PHeap} {k : Nat} {names : List ByteArray} {after : ByteArray} {sus : List Int} (h : PgT F H k names after sus) (hs : Sub H H') : PgT F H' k names after sus := by
  obtain ⟨oa, n, c, ob, m, d, h1, h2, h3, h4, h5⟩ := h.row
  exact ⟨h.sub.trans hs, h.off, oa, n, c, ob, m, d, h1.sub hs, h2, Owns.mono h3 fun a o _ hb => hs.le _ _ hb, h4, h5⟩
theorem PgT.new (H : PHeap) {k : Nat} (hk : H k = none) : PgT H (H.upd k (.cells #[.slice none 0 0, .string noS, .slice none 0 0] 31)) k [] noS [] :=
  ⟨Sub.upd _ hk, hk, none, 0, 0, none, 0, 0, Bx.new H k _ _, RdL.nil _ _ _, Owns.nil _ _ 1, Off.none _, fun _ h => (by cases h)⟩
theorem after_okT {F H : PHeap} {k : Nat} {names : List ByteArray} {after : ByteArray} {sus : List Int} (h : PgT F H k names after sus) :
    Triple Try.prog 11 #[.pointer (at0 k)] H fun v H' => v = .string after ∧ H' = H := by
  obtain ⟨oa, n, c, ob, m, d, h1, h2, _⟩ := h.row
  exact pAfter.vc (at0 k) H _ ⟨fun e => by simp [at0] at e, fun _ => ⟨obP k, obP k, after, h1.fld rfl, rfl, rfl⟩⟩
theorem names_okT {F H : PHeap} {k : Nat} {names : List ByteArray} {after : ByteArray} {sus : List Int} (h : PgT F H k names after sus) (hn : names.length ≤ 100000) :
    Triple Try.prog 14 #[.pointer (at0 k)] H fun v H' => ∃ b n c, v = .slice b n c ∧ RdL H' sE 1 b n names ∧ Sub H H' := by
  obtain ⟨oa, n, c, ob, m, d, h1, h2, _⟩ := h.row
  have hl := h2.len
  refine pNames.vc (at0 k) H _ ⟨fun e => by simp [at0] at e, fun _ => ⟨obP k, obP k, oa, n, c, h1.fld rfl, (cloneS_ok (h2.mono h.sub) (by omega)).mono ?_⟩⟩
  rintro _ H' ⟨b, q, rfl, g1, g2, _⟩
  exact ⟨b, n, q, rfl, b, n, q, rfl, g1.rd (E := sE) (sz := 1) (by omega) sLen, g2⟩
theorem sus_okT {F H : PHeap} {k : Nat} {names : List ByteArray} {after : ByteArray} {sus : List Int} (h : PgT F H k names after sus) (hn : sus.length ≤ 100000) :
    Triple Try.prog 20 #[.pointer (at0 k)] H fun v H' => ∃ b n c, v = .slice b n c ∧ RdL H' Hp.iE 1 b n sus ∧ Sub H H' := by
  obtain ⟨oa, n, c, ob, m, d, h1, h2, h3, _⟩ := h.row
  have hr := h3.rd (E := Hp.iE) (sz := 1) (by omega) Hp.iLen
  have hl := hr.len
  refine pSus.vc (at0 k) H _ ⟨fun e => by simp [at0] at e, fun _ => ⟨obP k, obP k, ob, m, d, h1.fld rfl, (Rnd.cloneI_ok hr (by omega)).mono ?_⟩⟩
  rintro _ H' ⟨b, q, rfl, g1, g2, _⟩
  exact ⟨b, m, q, rfl, b, m, q, rfl, g1.rd (E := Hp.iE) (sz := 1) (by omega) Hp.iLen, g2⟩
/-- Behind the first pages, of a turn's first loop. -/
structure T1 (G H' : PHeap) (k k5 k6 : Nat) (nm : Value) (after : ByteArray) (S : List Int) (lim : Bool × ByteArray) : Prop where
  sub : Sub G H'
  row : ∃ ob m d, Bx H' k 31 [nm, .string after, .slice ob m d] ∧ OwnL H' 3 Hp.iE 1 ob m d S ∧ Off G ob ∧ ∀ a, ob = some a → a.block ≠ k ∧ a.block ≠ k5 ∧ a.block ≠ k6
  b6 : Bx H' k6 4 [.bool lim.1]
  b5 : Bx H' k5 9 [.string lim.2]
theorem T1.lim {G H H' : PHeap} {k k5 k6 : Nat} {nm : Value} {after : ByteArray} {S : List Int} {lim lim' : Bool × ByteArray} (h : T1 G H k k5 k6 nm after S lim) (f6 : Bx H' k6 4 [.bool lim'.1]) (f5 : Bx H' k5 9 [.string lim'.2])
    (hk : ∀ q o, q ≠ k5 → q ≠ k6 → H q = some o → H' q = some o) (h5 : G k5 = none) (h6 : G k6 = none) (n5 : k5 ≠ k) (n6 : k6 ≠ k) : T1 G H' k k5 k6 nm after S lim' := by
  obtain ⟨ob, m, d, g1, g2, g3, g4⟩ := h.row
  refine ⟨⟨fun q o hq => hk q o (fun e => by rw [e, h5] at hq; cases hq) (fun e => by rw [e, h6] at hq; cases hq) (h.sub.le _ _ hq)⟩, ⟨ob, m, d, hk k _ n5.symm n6.symm g1, Owns.mono g2 fun a o ha hb => hk _ _ (g4 a ha).2.1 (g4 a ha).2.2 hb, g3, g4⟩, f6, f5⟩
theorem turnT_ok {F H : PHeap} {k : Nat} {names : List ByteArray} {after : ByteArray} {sus : List Int} {oa : Option Addr} {n c : Nat} {L : List Msg} (h : PgT F H k names after sus) (hl : RdL F mE 13 oa n L) (hok : ∀ m ∈ L, OkP F m)
    (hn : n ≤ 100) (hsum : names.length + sumN (L.filter fun m => kind_ m == 20) ≤ 90000) (hsus : sus.length ≤ 90000) :
    Triple Try.prog 12 #[.pointer (at0 k), .slice oa n c] H fun v H' => v = .bool (limL (L.filter fun m => kind_ m == 20)).1 ∧
      ∃ F', Sub F F' ∧ PgT F' H' k (namesL (limL (L.filter fun m => kind_ m == 20)) names (L.filter fun m => kind_ m == 20)) (if (limL (L.filter fun m => kind_ m == 20)).1 then after else (limL (L.filter fun m => kind_ m == 20)).2) (susL sus (L.filter fun m => kind_ m == 20)) := by
  refine pTurn.vc (at0 k) oa n c H _ ⟨fun e => by simp [at0] at e, fun _ k5 hk5 k6 hk6 => ?_⟩
  obtain ⟨oan, nn, cn, ob, mm, dd, hb, hnm, hown, hob, hobk⟩ := h.row
  have hk5k : k5 ≠ k := fun e => by unfold Bx at hb; rw [e, hb] at hk5; cases hk5
  have hob5 : ∀ a, ob = some a → a.block ≠ k5 := fun a ha e => by
    subst ha
    obtain ⟨o, ho⟩ := hown.blk
    rw [e, hk5] at ho; cases ho
  have s5 := Sub.upd (.cells #[.string noS] 9 (0, 0)) hk5
  have c5 : Bx (H.upd k5 (.cells #[.string noS] 9 (0, 0))) k5 9 [.string noS] := Bx.new H k5 9 [.string noS]
  have hb1 := hb.sub s5
  have hown1 := Owns.mono hown fun a o _ hb => s5.le _ _ hb
  generalize H.upd k5 (.cells #[.string noS] 9) = H1 at *
  have hk6k : k6 ≠ k := fun e => by unfold Bx at hb1; rw [e, hb1] at hk6; cases hk6
  have hk56 : k5 ≠ k6 := fun e => by have := c5; unfold Bx at this; rw [e, hk6] at this; cases this
  have hob6 : ∀ a, ob = some a → a.block ≠ k6 := fun a ha e => by
    subst ha
    obtain ⟨o, ho⟩ := hown1.blk
    rw [e, hk6] at ho; cases ho
  have s6 := Sub.upd (.cells #[.bool false] 4 (0, 0)) hk6
  have c6 : Bx (H1.upd k6 (.cells #[.bool false] 4 (0, 0))) k6 4 [.bool false] := Bx.new H1 k6 4 [.bool false]
  have c5' := c5.sub s6
  have hb2 := hb1.sub s6
  have s12 := s5.trans s6
  generalize H1.upd k6 (.cells #[.bool false] 4) = H2 at *
  have c6' := c6.upd_ne (.cells [Value.string noS].toArray 9 (0, 0)) hk56.symm
  refine ⟨_, c5'.writes [.string noS] rfl, _, c6'.writes [.bool true] rfl, ?_⟩
  have g5 : Bx ((H2.upd k5 (.cells [Value.string noS].toArray 9 (0, 0))).upd k6 (.cells [Value.bool true].toArray 4 (0, 0))) k5 9 [.string noS] := (Bx.new H2 k5 9 [.string noS]).upd_ne _ hk56
  have g6 := Bx.new (H2.upd k5 (.cells [Value.string noS].toArray 9 (0, 0))) k6 4 [.bool true]
  have s8 : Sub H ((H2.upd k5 (.cells [Value.string noS].toArray 9 (0, 0))).upd k6 (.cells [Value.bool true].toArray 4 (0, 0))) := Bx.sub_of (Bx.sub_of s12 hk5) (s5.none hk6)
  generalize (H2.upd k5 (.cells [Value.string noS].toArray 9 (0, 0))).upd k6 (.cells [Value.bool true].toArray 4 (0, 0)) = H8 at *
  have hbk := hb.sub s8
  have hown8 := Owns.mono hown fun a o _ hb => s8.le _ _ hb
  refine (listed_ok (hl.mono (h.sub.trans s8)) (by omega)).mono ?_
  rintro _ H10 ⟨a11, k12, k13, rfl, hL10, s10, off11⟩
  generalize hLdef : (L.filter fun m => kind_ m == 20) = Lf at *
  have hokL : ∀ m ∈ Lf, OkP F m := fun m hm => by
    rw [← hLdef] at hm
    exact hok m (List.mem_filter.1 hm).1
  have hLl := hL10.len
  have hLn : k12 ≤ n := by
    have h1 := List.length_filter_le (fun m => kind_ m == 20) L
    rw [hLdef, hLl, hl.len] at h1; exact h1
  -- what stays
  have hobm : ∀ q, q ∈ ob.toList.map (·.block) → ∃ a, ob = some a ∧ q = a.block := fun q hq => by
    obtain ⟨a, ha, rfl⟩ := List.mem_map.1 hq
    exact ⟨a, by simpa using ha, rfl⟩
  have hmob : ∀ a, ob = some a → a.block ∈ ob.toList.map (·.block) := fun a ha => List.mem_map.2 ⟨a, by simp [ha], rfl⟩
  have hFks : ∀ q ∈ k :: k5 :: k6 :: ob.toList.map (·.block), F q = none := by
    intro q hq
    simp only [List.mem_cons] at hq
    rcases hq with rfl | rfl | rfl | hq
    · exact h.off
    · exact h.sub.none hk5
    · exact h.sub.none (s5.none hk6)
    · obtain ⟨a, ha, rfl⟩ := hobm q hq
      exact hob a ha
  have hF10 : Sub F (rest H10 (k :: k5 :: k6 :: ob.toList.map (·.block))) := rest_le (h.sub.trans (s8.trans s10)) hFks
  have hLF : RdL (rest H10 (k :: k5 :: k6 :: ob.toList.map (·.block))) mE 13 a11 k12 Lf := hL10.rest fun a ha hq => by
    simp only [List.mem_cons] at hq
    rcases hq with e | e | e | e
    · exact off11.ne hbk a ha e
    · exact off11.ne g5 a ha e
    · exact off11.ne g6 a ha e
    · obtain ⟨b, hb', e'⟩ := hobm _ e
      subst hb'
      obtain ⟨o, ho⟩ := hown8.blk
      exact off11.ne ho a ha e'
  have hrk : rest H10 (k :: k5 :: k6 :: ob.toList.map (·.block)) k = none := rest_none (by simp)
  have hr5 : rest H10 (k :: k5 :: k6 :: ob.toList.map (·.block)) k5 = none := rest_none (by simp)
  have hr6 : rest H10 (k :: k5 :: k6 :: ob.toList.map (·.block)) k6 = none := rest_none (by simp)
  have hrob : Off (rest H10 (k :: k5 :: k6 :: ob.toList.map (·.block))) ob := fun a ha => rest_none (by simp only [List.mem_cons]; exact .inr (.inr (.inr (hmob a ha))))
  have hrs := rest_sub H10 (k :: k5 :: k6 :: ob.toList.map (·.block))
  have hT0 : T1 (rest H10 (k :: k5 :: k6 :: ob.toList.map (·.block))) H10 k k5 k6 (.slice oan nn cn) after sus (true, noS) :=
    ⟨hrs, ⟨ob, mm, dd, hbk.sub s10, Owns.mono hown8 fun a o _ hb => s10.le _ _ hb, hrob, fun a ha => ⟨hobk a ha, hob5 a ha, hob6 a ha⟩⟩, g6.sub s10, g5.sub s10⟩
  generalize rest H10 (k :: k5 :: k6 :: ob.toList.map (·.block)) = G at *
  refine ⟨a11, k12, k13, rfl, fun t H' => match t with | [.int _ i] => 0 ≤ i ∧ i ≤ k12 ∧ T1 G H' k k5 k6 (.slice oan nn cn) after (susL sus (Lf.take i.toNat)) (limL (Lf.take i.toNat)) | _ => False,
    fun t _ => match t with | [.int _ i] => (k12 - i).toNat | _ => 0, ⟨by omega, by omega, hT0⟩, ?_⟩
  rintro i H17 ⟨i0, i1, hT⟩
  obtain ⟨i, rfl⟩ : ∃ j : Nat, i = j := ⟨i.toNat, by omega⟩
  rw [Int.toNat_natCast] at hT
  have sG := hT.sub
  have hL17 := hLF.mono sG
  refine ⟨fun hi => ?_, fun hi => ?_⟩
  · have hi' : i < k12 := by simpa using hi
    obtain ⟨x, hx, hxr⟩ := hL17.ex (i := (i : Int)) (by omega) (by omega)
    rw [Int.toNat_natCast] at hx
    have okx := hokL x (List.mem_of_getElem? hx)
    have okG := okx.mono hF10
    have htk : Lf.take (i + 1) = Lf.take i ++ [x] := by rw [List.take_add_one, hx]; rfl
    have hslen := susL_len sus (Lf.take i)
    rw [List.length_take] at hslen
    have hsus1 : susL sus (Lf.take (i + 1)) = susStep (susL sus (Lf.take i)) x := by rw [htk, susL_snoc]
    have st := state_ok (okG.mono sG)
    obtain ⟨y1, y2, y3, y4, y5, y6, y7, y8, y9, y10, ⟨ya, yb, yc, yl⟩, ⟨za, zb, zc, zl⟩, ⟨wa, wb, wc, wl⟩⟩ := x
    refine ⟨hL17.ob (by omega) (by omega), y1, y2, y3, y4, y5, y6, y7, y8, y9, y10, ya, yb, yc, za, zb, zc, wa, wb, wc, hxr, st.mono ?_⟩
    rintro _ H38 ⟨rfl, hH⟩
    obtain rfl := hH.symm
    refine ⟨_, rfl, ?_⟩
    apply both (C := fun H' => T1 G H' k k5 k6 (.slice oan nn cn) after (susL sus (Lf.take (i + 1))) (limL (Lf.take i)))
    · intro key
      refine ⟨fun e => ?_, fun e => ?_⟩
      · have e' : stateL (y1, y2, y3, y4, y5, y6, y7, y8, y9, y10, ⟨ya, yb, yc, yl⟩, ⟨za, zb, zc, zl⟩, ⟨wa, wb, wc, wl⟩) == 2 := e
        obtain ⟨ob, mm, dd, hb1, hown1, hoff1, hne1⟩ := hT.row
        refine ⟨H17, Sub.refl _, obP k, obP k, ob, mm, dd, hb1.fld rfl, fun k44 hk44 => ⟨Sub.upd _ hk44, ?_⟩⟩
        have hmm := (hown1.rd (E := Hp.iE) (sz := 1) (by omega) Hp.iLen).len
        refine append_one Rnd.tI (E := Hp.iE) (x := y2) hk44 Hp.iLen hown1 rfl (Hp.iOne _) (by simp [maxLen]; omega) (by omega) ?_
        intro a47 c47 H46 how hf hfr _
        have sG46 : Sub G H46 := hf.sub sG hoff1
        have bk46 := hf.bx hb1 fun a ha => (hne1 a ha).1
        have b546 := hf.bx hT.b5 fun a ha => (hne1 a ha).2.1
        have b646 := hf.bx hT.b6 fun a ha => (hne1 a ha).2.2
        refine ⟨a47, mm + 1, c47, rfl, (rest_ok (l := susL sus (Lf.take i) ++ [y2]) (w := []) (how.rd (E := Hp.iE) (sz := 1) (by omega) Hp.iLen) (RdL.nil _ _ _) (by omega) (by omega)).mono ?_⟩
        rintro _ H51 ⟨b, kb, qb, rfl, ownb, s51, offb⟩
        have bk51 := bk46.sub s51
        refine ⟨b, kb, qb, rfl, obP k, obP k, _, bk51.put (i := 2) (x := .slice b kb qb) (by simp), ?_⟩
        have hneb : ∀ a, b = some a → a.block ≠ k ∧ a.block ≠ k5 ∧ a.block ≠ k6 := fun a ha => ⟨offb.ne bk46 a ha, offb.ne b546 a ha, offb.ne b646 a ha⟩
        have hT2 : T1 G (H51.upd k (.cells ([Value.slice oan nn cn, .string after, .slice ob mm dd].set 2 (.slice b kb qb)).toArray 31 (0, 0))) k k5 k6 (.slice oan nn cn) after (susL sus (Lf.take (i + 1))) (limL (Lf.take i)) := by
          refine ⟨(sG46.trans s51).wr hrk, ⟨b, kb, qb, Bx.new _ k _ _, ?_, offb.sub sG46, hneb⟩, (b646.sub s51).upd_ne _ hk6k, (b546.sub s51).upd_ne _ hk5k⟩
          rw [hsus1]
          unfold susStep
          rw [if_pos e']
          exact Owns.mono ownb fun a o ha hb => by rw [Vx.upd_ne _ _ (hneb a ha).1]; exact hb
        generalize H51.upd k (.cells ([Value.slice oan nn cn, .string after, .slice ob mm dd].set 2 (.slice b kb qb)).toArray 31 (0, 0)) = H55 at *
        exact key H55 hT2
      · refine key H17 ?_
        have e' : (stateL (y1, y2, y3, y4, y5, y6, y7, y8, y9, y10, ⟨ya, yb, yc, yl⟩, ⟨za, zb, zc, zl⟩, ⟨wa, wb, wc, wl⟩) == 2) = false := e
        rw [hsus1]
        unfold susStep
        rw [if_neg (by rw [e']; simp)]
        exact hT
    · intro H55 hT2
      have okx55 := okG.mono hT2.sub
      refine (whole_ok okx55).mono ?_
      rintro _ H57 ⟨rfl, hH⟩
      obtain rfl := hH.symm
      refine ⟨_, rfl, fun e => ?_, fun e => ?_⟩
      · have e' : wholeB (y1, y2, y3, y4, y5, y6, y7, y8, y9, y10, ⟨ya, yb, yc, yl⟩, ⟨za, zb, zc, zl⟩, ⟨wa, wb, wc, wl⟩) = false := by simpa using e
        have hz : RdL _ sE 1 za zb zl := okx55.names
        have hzl := hz.len
        have hz0 : 0 < zb := by
          rcases Nat.eq_zero_or_pos zb with h0 | h0
          · have : zl = [] := List.eq_nil_of_length_eq_zero (by omega)
            subst this
            simp [wholeB, names_] at e'
          · exact h0
        have hzs : zb ≤ 300 := okx55.small
        refine (maxS_ok hz hz0 (by omega)).mono ?_
        rintro _ H60 ⟨rfl, hH⟩
        obtain rfl := hH.symm
        refine ⟨_, rfl, (limit_ok hT2.b6 hT2.b5 hk56).mono ?_⟩
        rintro _ H63 ⟨rfl, f6, f5, hkeep⟩
        have hlim : limL (Lf.take (i + 1)) = limStep (limL (Lf.take i)) (maxL zl) := by rw [htk, limL_snoc, e', if_neg (by simp)]
        rw [wrapS (by omega) (by omega)]
        refine ⟨rfl, ⟨by omega, by omega, ?_⟩, ⟨by simp only; omega⟩⟩
        rw [show ((i : Int) + 1).toNat = i + 1 by omega, hlim]
        exact hT2.lim f6 f5 hkeep hr5 hr6 hk5k hk6k
      · have e' : wholeB (y1, y2, y3, y4, y5, y6, y7, y8, y9, y10, ⟨ya, yb, yc, yl⟩, ⟨za, zb, zc, zl⟩, ⟨wa, wb, wc, wl⟩) = true := by simpa using e
        have hlim : limL (Lf.take (i + 1)) = limL (Lf.take i) := by rw [htk, limL_snoc, e', if_pos rfl]
        rw [wrapS (by omega) (by omega)]
        refine ⟨⟨by omega, by omega, ?_⟩, ⟨by simp only; omega⟩⟩
        rw [show ((i : Int) + 1).toNat = i + 1 by omega, hlim]
        exact hT2
  · have hi' : ¬ i < k12 := by simpa using hi
    rw [List.take_of_length_le (by omega)] at hT
    obtain ⟨ob, mm, dd, hbk17, hown17, hoff17, hne17⟩ := hT.row
    have e6 := hT.b6
    have e5 := hT.b5
    generalize hlimd : limL Lf = lim at *
    generalize hsusd : susL sus Lf = S at *
    refine ⟨fun t H' => match t with | [.int _ i] => 0 ≤ i ∧ i ≤ k12 ∧ ∃ F2 oa2 n2 c2, Sub G F2 ∧ Sub F2 H' ∧ F2 k = none ∧ F2 k5 = none ∧ F2 k6 = none ∧ Off F2 ob ∧ Bx H' k 31 [.slice oa2 n2 c2, .string after, .slice ob mm dd] ∧ RdL F2 sE 1 oa2 n2 (namesL lim names (Lf.take i.toNat)) ∧ Bx H' k6 4 [.bool lim.1] ∧ Bx H' k5 9 [.string lim.2] ∧ OwnL H' 3 Hp.iE 1 ob mm dd S | _ => False,
      fun t _ => match t with | [.int _ i] => (k12 - i).toNat | _ => 0, ⟨by omega, by omega, G, oan, nn, cn, Sub.refl _, sG, hrk, hr5, hr6, hoff17, hbk17, by simpa [namesL] using hnm.mono hF10, e6, e5, hown17⟩, ?_⟩
    rintro j H75 ⟨j0, j1, F2, oa2, n2, c2, sF2, sH, fk, f5, f6, fob, hbk75, hnm75, e6, e5, hown75⟩
    obtain ⟨j, rfl⟩ : ∃ z : Nat, j = z := ⟨j.toNat, by omega⟩
    rw [Int.toNat_natCast] at hnm75
    have hL75 := (hLF.mono sF2).mono sH
    refine ⟨fun hj => ?_, fun hj => ?_⟩
    · have hj' : j < k12 := by simpa using hj
      obtain ⟨x, hx, hxr⟩ := hL75.ex (i := (j : Int)) (by omega) (by omega)
      rw [Int.toNat_natCast] at hx
      have okx := hokL x (List.mem_of_getElem? hx)
      have okx75 := ((okx.mono hF10).mono sF2).mono sH
      have htk : Lf.take (j + 1) = Lf.take j ++ [x] := by rw [List.take_add_one, hx]; rfl
      have hsumj : sumN (Lf.take (j + 1)) ≤ sumN Lf := sumN_take Lf (j + 1)
      have hsx : sumN (Lf.take (j + 1)) = sumN (Lf.take j) + (names_ x).l.length := by rw [htk]; simp [sumN]
      have hnl := namesL_len lim names (Lf.take j)
      have hnew := namesL_snoc lim names (Lf.take j) x
      rw [← htk] at hnew
      obtain ⟨y1, y2, y3, y4, y5, y6, y7, y8, y9, y10, ⟨ya, yb, yc, yl⟩, ⟨za, zb, zc, zl⟩, ⟨wa, wb, wc, wl⟩⟩ := x
      have hz : RdL H75 sE 1 za zb zl := okx75.names
      have hzs : zb ≤ 300 := okx75.small
      have hzl := hz.len
      simp only [names_] at hsx hnew
      refine ⟨hL75.ob (by omega) (by omega), y1, y2, y3, y4, y5, y6, y7, y8, y9, y10, ya, yb, yc, za, zb, zc, wa, wb, wc, hxr, (cloneS_ok hz (by omega)).mono ?_⟩
      rintro _ H96 ⟨b1, q1, rfl, o1, s96, off1⟩
      refine ⟨b1, zb, q1, rfl, (delS_own (p := farB lim) s96 off1 o1 (by omega) fun G1 y Q hs hQ => ?_).mono ?_⟩
      · refine CallY.fn (by kernel_rfl) ?_
        exact far_ok' (e6.sub hs) (e5.sub hs) (hQ G1 (Sub.refl _))
      rintro _ H101 ⟨m2, q2, rfl, r2, s101⟩
      have hbk101 := hbk75.sub s101
      have hm2 := r2.len
      have hfl := List.length_filter_le (fun s => !farB lim s) zl
      have hnml := hnm75.len
      refine ⟨b1, m2, q2, rfl, obP k, obP k, oa2, n2, c2, hbk101.fld rfl, fun k108 hk108 => ?_⟩
      have s108 := Sub.upd (.cells (([⟨oa2, n2, c2, namesL lim names (Lf.take j)⟩, ⟨b1, m2, q2, zl.filter fun s => !farB lim s⟩] : List TT).flatMap Sl.E).toArray 24 (0, 0)) hk108
      have hT : RdT (H101.upd k108 (.cells (([⟨oa2, n2, c2, namesL lim names (Lf.take j)⟩, ⟨b1, m2, q2, zl.filter fun s => !farB lim s⟩] : List TT).flatMap Sl.E).toArray 24 (0, 0))) (at0 k108) 2 [⟨oa2, n2, c2, namesL lim names (Lf.take j)⟩, ⟨b1, m2, q2, zl.filter fun s => !farB lim s⟩] := by
        refine ⟨Bx.rd (E := Sl.E) (sz := 1) (l := ([⟨oa2, n2, c2, namesL lim names (Lf.take j)⟩, ⟨b1, m2, q2, zl.filter fun s => !farB lim s⟩] : List TT)) (fun _ => rfl) (Bx.new H101 k108 24 _), fun p hp => ?_⟩
        simp at hp
        rcases hp with rfl | rfl
        · exact hnm75.mono ((sH.trans s101).trans s108)
        · exact r2.mono s108
      have hall : allT [⟨oa2, n2, c2, namesL lim names (Lf.take j)⟩, ⟨b1, m2, q2, zl.filter fun s => !farB lim s⟩] = namesL lim names (Lf.take j) ++ zl.filter fun s => !farB lim s := by simp [allT]
      refine (merge_own (c := 2) hT (by omega) (fun p hp => by
        simp at hp
        rcases hp with rfl | rfl
        · show n2 ≤ 100000; omega
        · show m2 ≤ 100000; omega) (by rw [hall, List.length_append]; omega)).mono ?_
      rintro _ H110 ⟨b3, m3, q3, R, rfl, r3, hmq, hRr, hRm, s110, off3⟩
      have hR : R = namesL lim names (Lf.take (j + 1)) := by
        rw [hnew]
        refine rising_ext hRr (mergeL_rising _).1 fun x => ?_
        rw [hRm, hall, (mergeL_rising _).2]
      have hsF : Sub F2 H110 := sH.trans (s101.trans (s108.trans s110))
      have s75 := s101.trans (s108.trans s110)
      have hbk110 := hbk75.sub s75
      have e6' := e6.sub s75
      have e5' := e5.sub s75
      have hown110 : OwnL H110 3 Hp.iE 1 ob mm dd S := Owns.mono hown75 fun a o _ hb => s75.le _ _ hb
      have hobm : ∀ q, q ∈ ob.toList.map (·.block) → ∃ a, ob = some a ∧ q = a.block := fun q hq => by
        obtain ⟨a, ha, rfl⟩ := List.mem_map.1 hq
        exact ⟨a, by simpa using ha, rfl⟩
      have hmob : ∀ a, ob = some a → a.block ∈ ob.toList.map (·.block) := fun a ha => List.mem_map.2 ⟨a, by simp [ha], rfl⟩
      rw [wrapS (by omega) (by omega)]
      refine ⟨b3, m3, q3, rfl, obP k, obP k, _, hbk110.put (i := 0) (x := .slice b3 m3 q3) (by simp), ⟨by omega, by omega, rest H110 (k :: k5 :: k6 :: ob.toList.map (·.block)), b3, m3, q3, sF2.trans (rest_le hsF fun q hq => ?_), ?_, rest_none (by simp), rest_none (by simp), rest_none (by simp), fun a ha => rest_none (by simp only [List.mem_cons]; exact .inr (.inr (.inr (hmob a ha)))), Bx.new _ k _ _, ?_, e6'.upd_ne _ hk6k, e5'.upd_ne _ hk5k, ?_⟩, ⟨by simp only; omega⟩⟩
      · simp only [List.mem_cons] at hq
        rcases hq with rfl | rfl | rfl | hq
        · exact fk
        · exact f5
        · exact f6
        · obtain ⟨a, ha, rfl⟩ := hobm q hq
          exact fob a ha
      · exact rest_to fun q o hq ho => by rw [Vx.upd_ne _ _ (fun e => hq (by simp [e]))]; exact ho
      · rw [show ((j : Int) + 1).toNat = j + 1 by omega, ← hR]
        have offk := off3.sub s108
        exact r3.rest fun a ha hq => by
          simp only [List.mem_cons] at hq
          rcases hq with e | e | e | e
          · exact offk.ne hbk101 a ha e
          · exact offk.ne (e5.sub s101) a ha e
          · exact offk.ne (e6.sub s101) a ha e
          · obtain ⟨b, hb', e'⟩ := hobm _ e
            have hown101 : OwnL H101 3 Hp.iE 1 ob mm dd S := Owns.mono hown75 fun a o _ hb => s101.le _ _ hb
            subst hb'
            obtain ⟨o, ho⟩ := hown101.blk
            exact offk.ne ho a ha e'
      · exact Owns.mono hown110 fun a o ha hb => by rw [Vx.upd_ne _ _ (hne17 a ha).1]; exact hb
    · have hj' : ¬ j < k12 := by simpa using hj
      rw [List.take_of_length_le (by omega)] at hnm75
      refine ⟨lim.1, e6.reads, fun e => ?_, fun e => ?_⟩
      · have e' : lim.1 = false := by simpa using e
        refine ⟨lim.2, e5.reads, obP k, obP k, _, hbk75.put (i := 1) (x := .string lim.2) (by simp), lim.1, (e6.upd_ne _ hk6k).reads, rfl, F2, hF10.trans sF2, ?_⟩
        rw [e', if_neg (by simp)]
        exact ⟨⟨fun q o hq => by rw [Vx.upd_ne _ _ (fun e => by rw [e, fk] at hq; cases hq)]; exact sH.le _ _ hq⟩, fk, oa2, n2, c2, ob, mm, dd, Bx.new _ k _ _, hnm75, Owns.mono hown75 fun a o ha hb => by rw [Vx.upd_ne _ _ (hne17 a ha).1]; exact hb, fob, fun a ha => (hne17 a ha).1⟩
      · have e' : lim.1 = true := by simpa using e
        refine ⟨lim.1, e6.reads, rfl, F2, hF10.trans sF2, ?_⟩
        rw [e', if_pos rfl]
        exact ⟨sH, fk, oa2, n2, c2, ob, mm, dd, hbk75, hnm75, hown75, fob, fun a ha => (hne17 a ha).1⟩
end Go.Page
