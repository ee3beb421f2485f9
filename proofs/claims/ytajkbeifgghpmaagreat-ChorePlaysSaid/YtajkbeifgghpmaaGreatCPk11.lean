/- Pages, wherever they lie: the contract of a turn, whoever is suspect; whether enough are sound. · Pages: the contract of the reference's turn. · What is to be shown of each function, in its normal form.  · What a chore asks of those who choose: who helps, who is helped, whether a blob is gone. -/
import Derived.Test.YtajkbeifgghpmaaGreatProg
import Derived.Test.YtajkbeifgghpmaaGreatCPk10
set_option linter.unusedVariables false
set_option maxRecDepth 100000
namespace Go.Vx
/-- A place in a variable. -/
def pt (k : Nat) (PA : List Value) : Option Addr := fldA (at0 k) PA.length
theorem obA (k : Nat) (PA : List Value) : Ob (pt k PA ≠ none) := ⟨by simp [pt, at0, fldA]⟩
theorem fld_fld (k a b : Nat) : fldA (fldA (at0 k) a) b = fldA (at0 k) (a + b) := by
  simp [fldA, at0, Addr.add]
  by_cases hb : b = 0 <;> by_cases ha : a = 0 <;> simp [ha, hb]
theorem Bx.fldA {H : PHeap} {k : Nat} {t : TypeId} {PA l PB : List Value} (h : Bx H k t (PA ++ l ++ PB)) {i : Nat} {v : Value} (hv : l[i]? = some v) : Reads H (Vx.fldA (pt k PA) i) [v] := by
  unfold pt
  rw [fld_fld]
  refine h.fld ?_
  have hi : i < l.length := (List.getElem?_eq_some_iff.1 hv).1
  rw [List.append_assoc, List.getElem?_append_right (by omega), List.getElem?_append_left (by omega), show PA.length + i - PA.length = i by omega]
  exact hv
theorem set_mid {PA l PB : List Value} {i : Nat} {x : Value} (hi : i < l.length) : (PA ++ l ++ PB).set (PA.length + i) x = PA ++ l.set i x ++ PB := by
  rw [List.append_assoc, List.set_append_right _ _ (by omega), List.set_append_left _ _ (by omega), ← List.append_assoc, show PA.length + i - PA.length = i by omega]
theorem Bx.putA {H : PHeap} {k : Nat} {t : TypeId} {PA l PB : List Value} (h : Bx H k t (PA ++ l ++ PB)) {i : Nat} {x : Value} (hi : i < l.length) : Writes H (H.upd k (.cells (PA ++ l.set i x ++ PB).toArray t (0, 0))) (Vx.fldA (pt k PA) i) [x] := by
  unfold pt
  rw [fld_fld, ← set_mid hi]
  exact h.put (by simp; omega)
end Go.Vx
namespace Go.Page
open Go.Vx Go.Vc Go.Proofs Go.Txt Go.Lab Go.Hp Go.Pln
abbrev from_ (m : Msg) : Int := m.2.1
/-- Who was suspect, behind pages. -/
def susStep (S : List Int) (m : Msg) : List Int := if stateL m == 2 then restL (S ++ [from_ m]) [] else S
def susL (S : List Int) (L : List Msg) : List Int := L.foldl susStep S
theorem susL_snoc (S : List Int) (L : List Msg) (m : Msg) : susL S (L ++ [m]) = susStep (susL S L) m := by simp [susL]
theorem susStep_len (S : List Int) (m : Msg) : (susStep S m).length ≤ S.length + 1 := by
  unfold susStep
  split
  · have := restL_len (S ++ [from_ m]) []
    simpa using this
  · omega
theorem susL_len (S : List Int) (L : List Msg) : (susL S L).length ≤ S.length + L.length := by
  induction L generalizing S with
  | nil => simp [susL]
  | cons m ms ih =>
    have h1 := ih (susStep S m)
    have h2 := susStep_len S m
    have e : susL S (m :: ms) = susL (susStep S m) ms := rfl
    rw [e, List.length_cons]; omega
variable {tp : TypeId} {PA PB : List Value}
/-- The block k holds pages, apart from F, which holds what it reads; who was suspect lies in an array of its own. -/
structure PgT (tp : TypeId) (PA PB : List Value) (F H : PHeap) (k : Nat) (names : List ByteArray) (after : ByteArray) (sus : List Int) : Prop where
  sub : Sub F H
  off : F k = none
  row : ∃ oa n c ob m d, Bx H k tp (PA ++ [.slice oa n c, .string after, .slice ob m d] ++ PB) ∧ RdL F sE 1 oa n names ∧ OwnL H 3 Hp.iE 1 ob m d sus ∧ Off F ob ∧ ∀ a, ob = some a → a.block ≠ k
theorem after_okT {F H : PHeap} {k : Nat} {names : List ByteArray} {after : ByteArray} {sus : List Int} (h : PgT tp PA PB F H k names after sus) :
    Triple Tryz.prog 55 #[.pointer (pt k PA)] H fun v H' => v = .string after ∧ H' = H := by
  obtain ⟨oa, n, c, ob, m, d, h1, h2, _⟩ := h.row
  exact pAfter.vc (pt k PA) H _ ⟨fun e => by simp [pt, at0, fldA] at e, fun _ => ⟨obA k PA, obA k PA, after, h1.fldA rfl, rfl, rfl⟩⟩
theorem sus_okT {F H : PHeap} {k : Nat} {names : List ByteArray} {after : ByteArray} {sus : List Int} (h : PgT tp PA PB F H k names after sus) (hn : sus.length ≤ 100000) :
    Triple Tryz.prog 90 #[.pointer (pt k PA)] H fun v H' => ∃ b n c, v = .slice b n c ∧ RdL H' Hp.iE 1 b n sus ∧ Sub H H' := by
  obtain ⟨oa, n, c, ob, m, d, h1, h2, h3, _⟩ := h.row
  have hr := h3.rd (E := Hp.iE) (sz := 1) (by omega) Hp.iLen
  have hl := hr.len
  refine pSus.vc (pt k PA) H _ ⟨fun e => by simp [pt, at0, fldA] at e, fun _ => ⟨obA k PA, obA k PA, ob, m, d, h1.fldA rfl, (Rnd.cloneI_ok hr (by omega)).mono ?_⟩⟩
  rintro _ H' ⟨b, q, rfl, g1, g2, _⟩
  exact ⟨b, m, q, rfl, b, m, q, rfl, g1.rd (E := Hp.iE) (sz := 1) (by omega) Hp.iLen, g2⟩
/-- Behind the first pages, of a turn's first loop. -/
structure T1 (tp : TypeId) (PA PB : List Value) (G H' : PHeap) (k k5 k6 : Nat) (nm : Value) (after : ByteArray) (S : List Int) (lim : Bool × ByteArray) : Prop where
  sub : Sub G H'
  row : ∃ ob m d, Bx H' k tp (PA ++ [nm, .string after, .slice ob m d] ++ PB) ∧ OwnL H' 3 Hp.iE 1 ob m d S ∧ Off G ob ∧ ∀ a, ob = some a → a.block ≠ k ∧ a.block ≠ k5 ∧ a.block ≠ k6
  b6 : Bx H' k6 4 [.bool lim.1]
  b5 : Bx H' k5 9 [.string lim.2]
theorem T1.lim {G H H' : PHeap} {k k5 k6 : Nat} {nm : Value} {after : ByteArray} {S : List Int} {lim lim' : Bool × ByteArray} (h : T1 tp PA PB G H k k5 k6 nm after S lim) (f6 : Bx H' k6 4 [.bool lim'.1]) (f5 : Bx H' k5 9 [.string lim'.2])
    (hk : ∀ q o, q ≠ k5 → q ≠ k6 → H q = some o → H' q = some o) (h5 : G k5 = none) (h6 : G k6 = none) (n5 : k5 ≠ k) (n6 : k6 ≠ k) : T1 tp PA PB G H' k k5 k6 nm after S lim' := by
  obtain ⟨ob, m, d, g1, g2, g3, g4⟩ := h.row
  refine ⟨⟨fun q o hq => hk q o (fun e => by rw [e, h5] at hq; cases hq) (fun e => by rw [e, h6] at hq; cases hq) (h.sub.le _ _ hq)⟩, ⟨ob, m, d, hk k _ n5.symm n6.symm g1, Owns.mono g2 fun a o ha hb => hk _ _ (g4 a ha).2.1 (g4 a ha).2.2 hb, g3, g4⟩, f6, f5⟩
theorem turnT_ok {F H : PHeap} {k : Nat} {names : List ByteArray} {after : ByteArray} {sus : List Int} {oa : Option Addr} {n c : Nat} {L : List Msg} (h : PgT tp PA PB F H k names after sus) (hl : RdL F mE 13 oa n L) (hok : ∀ m ∈ L, OkP F m)
    (hn : n ≤ 100) (hsum : names.length + sumN (L.filter fun m => kind_ m == 20) ≤ 90000) (hsus : sus.length ≤ 90000) :
    Triple Tryz.prog 88 #[.pointer (pt k PA), .slice oa n c] H fun v H' => v = .bool (limL (L.filter fun m => kind_ m == 20)).1 ∧
      ∃ F', Sub F F' ∧ PgT tp PA PB F' H' k (namesL (limL (L.filter fun m => kind_ m == 20)) names (L.filter fun m => kind_ m == 20)) (if (limL (L.filter fun m => kind_ m == 20)).1 then after else (limL (L.filter fun m => kind_ m == 20)).2) (susL sus (L.filter fun m => kind_ m == 20)) := by
  refine pTurn.vc (pt k PA) oa n c H _ ⟨fun e => by simp [pt, at0, fldA] at e, fun _ k5 hk5 k6 hk6 => ?_⟩
  obtain ⟨oan, nn, cn, ob, mm, dd, hb, hnm, hown, hob, hobk⟩ := h.row
  have hk5k : k5 ≠ k := fun e => by unfold Bx at hb; rw [e, hb] at hk5; cases hk5
  have hob5 : ∀ a, ob = some a → a.block ≠ k5 := fun a ha e => by
    subst ha
    obtain ⟨o, ho⟩ := hown.blk
    rw [e, hk5] at ho; cases ho
  have s5 := Sub.upd (.cells #[.string noS] 9 (0, 0)) hk5
  have c5 : Bx (H.upd k5 (.cells #[.string noS] 9 (0, 0))) k5 9 [.string noS] := Bx.new H k5 9 [.string noS]
  have hb1 := hb.sub s5
  have hown1 := Owns.mono hown fun a o _ hb => s5.le _ _ hb
  generalize H.upd k5 (.cells #[.string noS] 9) = H1 at *
  have hk6k : k6 ≠ k := fun e => by unfold Bx at hb1; rw [e, hb1] at hk6; cases hk6
  have hk56 : k5 ≠ k6 := fun e => by have := c5; unfold Bx at this; rw [e, hk6] at this; cases this
  have hob6 : ∀ a, ob = some a → a.block ≠ k6 := fun a ha e => by
    subst ha
    obtain ⟨o, ho⟩ := hown1.blk
    rw [e, hk6] at ho; cases ho
  have s6 := Sub.upd (.cells #[.bool false] 4 (0, 0)) hk6
  have c6 : Bx (H1.upd k6 (.cells #[.bool false] 4 (0, 0))) k6 4 [.bool false] := Bx.new H1 k6 4 [.bool false]
  have c5' := c5.sub s6
  have hb2 := hb1.sub s6
  have s12 := s5.trans s6
  generalize H1.upd k6 (.cells #[.bool false] 4) = H2 at *
  have c6' := c6.upd_ne (.cells [Value.string noS].toArray 9 (0, 0)) hk56.symm
  refine ⟨_, c5'.writes [.string noS] rfl, _, c6'.writes [.bool true] rfl, ?_⟩
  have g5 : Bx ((H2.upd k5 (.cells [Value.string noS].toArray 9 (0, 0))).upd k6 (.cells [Value.bool true].toArray 4 (0, 0))) k5 9 [.string noS] := (Bx.new H2 k5 9 [.string noS]).upd_ne _ hk56
  have g6 := Bx.new (H2.upd k5 (.cells [Value.string noS].toArray 9 (0, 0))) k6 4 [.bool true]
  have s8 : Sub H ((H2.upd k5 (.cells [Value.string noS].toArray 9 (0, 0))).upd k6 (.cells [Value.bool true].toArray 4 (0, 0))) := Bx.sub_of (Bx.sub_of s12 hk5) (s5.none hk6)
  generalize (H2.upd k5 (.cells [Value.string noS].toArray 9 (0, 0))).upd k6 (.cells [Value.bool true].toArray 4 (0, 0)) = H8 at *
  have hbk := hb.sub s8
  have hown8 := Owns.mono hown fun a o _ hb => s8.le _ _ hb
  refine (listed_ok (hl.mono (h.sub.trans s8)) (by omega)).mono ?_
  rintro _ H10 ⟨a11, k12, k13, rfl, hL10, s10, off11⟩
  generalize hLdef : (L.filter fun m => kind_ m == 20) = Lf at *
  have hokL : ∀ m ∈ Lf, OkP F m := fun m hm => by
    rw [← hLdef] at hm
    exact hok m (List.mem_filter.1 hm).1
  have hLl := hL10.len
  have hLn : k12 ≤ n := by
    have h1 := List.length_filter_le (fun m => kind_ m == 20) L
    rw [hLdef, hLl, hl.len] at h1; exact h1
  -- what stays
  have hobm : ∀ q, q ∈ ob.toList.map (·.block) → ∃ a, ob = some a ∧ q = a.block := fun q hq => by
    obtain ⟨a, ha, rfl⟩ := List.mem_map.1 hq
    exact ⟨a, by simpa using ha, rfl⟩
  have hmob : ∀ a, ob = some a → a.block ∈ ob.toList.map (·.block) := fun a ha => List.mem_map.2 ⟨a, by simp [ha], rfl⟩
  have hFks : ∀ q ∈ k :: k5 :: k6 :: ob.toList.map (·.block), F q = none := by
    intro q hq
    simp only [List.mem_cons] at hq
    rcases hq with rfl | rfl | rfl | hq
    · exact h.off
    · exact h.sub.none hk5
    · exact h.sub.none (s5.none hk6)
    · obtain ⟨a, ha, rfl⟩ := hobm q hq
      exact hob a ha
  have hF10 : Sub F (rest H10 (k :: k5 :: k6 :: ob.toList.map (·.block))) := rest_le (h.sub.trans (s8.trans s10)) hFks
  have hLF : RdL (rest H10 (k :: k5 :: k6 :: ob.toList.map (·.block))) mE 13 a11 k12 Lf := hL10.rest fun a ha hq => by
    simp only [List.mem_cons] at hq
    rcases hq with e | e | e | e
    · exact off11.ne hbk a ha e
    · exact off11.ne g5 a ha e
    · exact off11.ne g6 a ha e
    · obtain ⟨b, hb', e'⟩ := hobm _ e
      subst hb'
      obtain ⟨o, ho⟩ := hown8.blk
      exact off11.ne ho a ha e'
  have hrk : rest H10 (k :: k5 :: k6 :: ob.toList.map (·.block)) k = none := rest_none (by simp)
  have hr5 : rest H10 (k :: k5 :: k6 :: ob.toList.map (·.block)) k5 = none := rest_none (by simp)
  have hr6 : rest H10 (k :: k5 :: k6 :: ob.toList.map (·.block)) k6 = none := rest_none (by simp)
  have hrob : Off (rest H10 (k :: k5 :: k6 :: ob.toList.map (·.block))) ob := fun a ha => rest_none (by simp only [List.mem_cons]; exact .inr (.inr (.inr (hmob a ha))))
  have hrs := rest_sub H10 (k :: k5 :: k6 :: ob.toList.map (·.block))
  have hT0 : T1 tp PA PB (rest H10 (k :: k5 :: k6 :: ob.toList.map (·.block))) H10 k k5 k6 (.slice oan nn cn) after sus (true, noS) :=
    ⟨hrs, ⟨ob, mm, dd, hbk.sub s10, Owns.mono hown8 fun a o _ hb => s10.le _ _ hb, hrob, fun a ha => ⟨hobk a ha, hob5 a ha, hob6 a ha⟩⟩, g6.sub s10, g5.sub s10⟩
  generalize rest H10 (k :: k5 :: k6 :: ob.toList.map (·.block)) = G at *
  refine ⟨a11, k12, k13, rfl, fun t H' => match t with | [.int _ i] => 0 ≤ i ∧ i ≤ k12 ∧ T1 tp PA PB G H' k k5 k6 (.slice oan nn cn) after (susL sus (Lf.take i.toNat)) (limL (Lf.take i.toNat)) | _ => False,
    fun t _ => match t with | [.int _ i] => (k12 - i).toNat | _ => 0, ⟨by omega, by omega, hT0⟩, ?_⟩
  rintro i H17 ⟨i0, i1, hT⟩
  obtain ⟨i, rfl⟩ : ∃ j : Nat, i = j := ⟨i.toNat, by omega⟩
  rw [Int.toNat_natCast] at hT
  have sG := hT.sub
  have hL17 := hLF.mono sG
  refine ⟨fun hi => ?_, fun hi => ?_⟩
  · have hi' : i < k12 := by simpa using hi
    obtain ⟨x, hx, hxr⟩ := hL17.ex (i := (i : Int)) (by omega) (by omega)
    rw [Int.toNat_natCast] at hx
    have okx := hokL x (List.mem_of_getElem? hx)
    have okG := okx.mono hF10
    have htk : Lf.take (i + 1) = Lf.take i ++ [x] := by rw [List.take_add_one, hx]; rfl
    have hslen := susL_len sus (Lf.take i)
    rw [List.length_take] at hslen
    have hsus1 : susL sus (Lf.take (i + 1)) = susStep (susL sus (Lf.take i)) x := by rw [htk, susL_snoc]
    have st := state_ok (okG.mono sG)
    obtain ⟨y1, y2, y3, y4, y5, y6, y7, y8, y9, y10, ⟨ya, yb, yc, yl⟩, ⟨za, zb, zc, zl⟩, ⟨wa, wb, wc, wl⟩⟩ := x
    refine ⟨hL17.ob (by omega) (by omega), y1, y2, y3, y4, y5, y6, y7, y8, y9, y10, ya, yb, yc, za, zb, zc, wa, wb, wc, hxr, st.mono ?_⟩
    rintro _ H38 ⟨rfl, hH⟩
    obtain rfl := hH.symm
    refine ⟨_, rfl, ?_⟩
    apply both (C := fun H' => T1 tp PA PB G H' k k5 k6 (.slice oan nn cn) after (susL sus (Lf.take (i + 1))) (limL (Lf.take i)))
    · intro key
      refine ⟨fun e => ?_, fun e => ?_⟩
      · have e' : stateL (y1, y2, y3, y4, y5, y6, y7, y8, y9, y10, ⟨ya, yb, yc, yl⟩, ⟨za, zb, zc, zl⟩, ⟨wa, wb, wc, wl⟩) == 2 := e
        obtain ⟨ob, mm, dd, hb1, hown1, hoff1, hne1⟩ := hT.row
        refine ⟨H17, Sub.refl _, obA k PA, obA k PA, ob, mm, dd, hb1.fldA rfl, fun k44 hk44 => ⟨Sub.upd _ hk44, ?_⟩⟩
        have hmm := (hown1.rd (E := Hp.iE) (sz := 1) (by omega) Hp.iLen).len
        refine append_one Rnd.tI (E := Hp.iE) (x := y2) hk44 Hp.iLen hown1 rfl (Hp.iOne _) (by simp [maxLen]; omega) (by omega) ?_
        intro a47 c47 H46 how hf hfr _
        have sG46 : Sub G H46 := hf.sub sG hoff1
        have bk46 := hf.bx hb1 fun a ha => (hne1 a ha).1
        have b546 := hf.bx hT.b5 fun a ha => (hne1 a ha).2.1
        have b646 := hf.bx hT.b6 fun a ha => (hne1 a ha).2.2
        refine ⟨a47, mm + 1, c47, rfl, (rest_ok (l := susL sus (Lf.take i) ++ [y2]) (w := []) (how.rd (E := Hp.iE) (sz := 1) (by omega) Hp.iLen) (RdL.nil _ _ _) (by omega) (by omega)).mono ?_⟩
        rintro _ H51 ⟨b, kb, qb, rfl, ownb, s51, offb⟩
        have bk51 := bk46.sub s51
        refine ⟨b, kb, qb, rfl, obA k PA, obA k PA, _, bk51.putA (i := 2) (x := .slice b kb qb) (by simp), ?_⟩
        have hneb : ∀ a, b = some a → a.block ≠ k ∧ a.block ≠ k5 ∧ a.block ≠ k6 := fun a ha => ⟨offb.ne bk46 a ha, offb.ne b546 a ha, offb.ne b646 a ha⟩
        have hT2 : T1 tp PA PB G (H51.upd k (.cells (PA ++ [Value.slice oan nn cn, .string after, .slice ob mm dd].set 2 (.slice b kb qb) ++ PB).toArray tp (0, 0))) k k5 k6 (.slice oan nn cn) after (susL sus (Lf.take (i + 1))) (limL (Lf.take i)) := by
          refine ⟨(sG46.trans s51).wr hrk, ⟨b, kb, qb, Bx.new _ k _ _, ?_, offb.sub sG46, hneb⟩, (b646.sub s51).upd_ne _ hk6k, (b546.sub s51).upd_ne _ hk5k⟩
          rw [hsus1]
          unfold susStep
          rw [if_pos e']
          exact Owns.mono ownb fun a o ha hb => by rw [Vx.upd_ne _ _ (hneb a ha).1]; exact hb
        generalize H51.upd k (.cells (PA ++ [Value.slice oan nn cn, .string after, .slice ob mm dd].set 2 (.slice b kb qb) ++ PB).toArray tp (0, 0)) = H55 at *
        exact key H55 hT2
      · refine key H17 ?_
        have e' : (stateL (y1, y2, y3, y4, y5, y6, y7, y8, y9, y10, ⟨ya, yb, yc, yl⟩, ⟨za, zb, zc, zl⟩, ⟨wa, wb, wc, wl⟩) == 2) = false := e
        rw [hsus1]
        unfold susStep
        rw [if_neg (by rw [e']; simp)]
        exact hT
    · intro H55 hT2
      have okx55 := okG.mono hT2.sub
      refine (whole_ok okx55).mono ?_
      rintro _ H57 ⟨rfl, hH⟩
      obtain rfl := hH.symm
      refine ⟨_, rfl, fun e => ?_, fun e => ?_⟩
      · have e' : wholeB (y1, y2, y3, y4, y5, y6, y7, y8, y9, y10, ⟨ya, yb, yc, yl⟩, ⟨za, zb, zc, zl⟩, ⟨wa, wb, wc, wl⟩) = false := by simpa using e
        have hz : RdL _ sE 1 za zb zl := okx55.names
        have hzl := hz.len
        have hz0 : 0 < zb := by
          rcases Nat.eq_zero_or_pos zb with h0 | h0
          · have : zl = [] := List.eq_nil_of_length_eq_zero (by omega)
            subst this
            simp [wholeB, names_] at e'
          · exact h0
        have hzs : zb ≤ 300 := okx55.small
        refine (maxS_ok hz hz0 (by omega)).mono ?_
        rintro _ H60 ⟨rfl, hH⟩
        obtain rfl := hH.symm
        refine ⟨_, rfl, (limit_ok hT2.b6 hT2.b5 hk56).mono ?_⟩
        rintro _ H63 ⟨rfl, f6, f5, hkeep⟩
        have hlim : limL (Lf.take (i + 1)) = limStep (limL (Lf.take i)) (maxL zl) := by rw [htk, limL_snoc, e', if_neg (by simp)]
        rw [wrapS (by omega) (by omega)]
        refine ⟨rfl, ⟨by omega, by omega, ?_⟩, ⟨by simp only; omega⟩⟩
        rw [show ((i : Int) + 1).toNat = i + 1 by omega, hlim]
        exact hT2.lim f6 f5 hkeep hr5 hr6 hk5k hk6k
      · have e' : wholeB (y1, y2, y3, y4, y5, y6, y7, y8, y9, y10, ⟨ya, yb, yc, yl⟩, ⟨za, zb, zc, zl⟩, ⟨wa, wb, wc, wl⟩) = true := by simpa using e
        have hlim : limL (Lf.take (i + 1)) = limL (Lf.take i) := by rw [htk, limL_snoc, e', if_pos rfl]
        rw [wrapS (by omega) (by omega)]
        refine ⟨⟨by omega, by omega, ?_⟩, ⟨by simp only; omega⟩⟩
        rw [show ((i : Int) + 1).toNat = i + 1 by omega, hlim]
        exact hT2
  · have hi' : ¬ i < k12 := by simpa using hi
    rw [List.take_of_length_le (by omega)] at hT
    obtain ⟨ob, mm, dd, hbk17, hown17, hoff17, hne17⟩ := hT.row
    have e6 := hT.b6
    have e5 := hT.b5
    generalize hlimd : limL Lf = lim at *
    generalize hsusd : susL sus Lf = S at *
    refine ⟨fun t H' => match t with | [.int _ i] => 0 ≤ i ∧ i ≤ k12 ∧ ∃ F2 oa2 n2 c2, Sub G F2 ∧ Sub F2 H' ∧ F2 k = none ∧ F2 k5 = none ∧ F2 k6 = none ∧ Off F2 ob ∧ Bx H' k tp (PA ++ [.slice oa2 n2 c2, .string after, .slice ob mm dd] ++ PB) ∧ RdL F2 sE 1 oa2 n2 (namesL lim names (Lf.take i.toNat)) ∧ Bx H' k6 4 [.bool lim.1] ∧ Bx H' k5 9 [.string lim.2] ∧ OwnL H' 3 Hp.iE 1 ob mm dd S | _ => False,
      fun t _ => match t with | [.int _ i] => (k12 - i).toNat | _ => 0, ⟨by omega, by omega, G, oan, nn, cn, Sub.refl _, sG, hrk, hr5, hr6, hoff17, hbk17, by simpa [namesL] using hnm.mono hF10, e6, e5, hown17⟩, ?_⟩
    rintro j H75 ⟨j0, j1, F2, oa2, n2, c2, sF2, sH, fk, f5, f6, fob, hbk75, hnm75, e6, e5, hown75⟩
    obtain ⟨j, rfl⟩ : ∃ z : Nat, j = z := ⟨j.toNat, by omega⟩
    rw [Int.toNat_natCast] at hnm75
    have hL75 := (hLF.mono sF2).mono sH
    refine ⟨fun hj => ?_, fun hj => ?_⟩
    · have hj' : j < k12 := by simpa using hj
      obtain ⟨x, hx, hxr⟩ := hL75.ex (i := (j : Int)) (by omega) (by omega)
      rw [Int.toNat_natCast] at hx
      have okx := hokL x (List.mem_of_getElem? hx)
      have okx75 := ((okx.mono hF10).mono sF2).mono sH
      have htk : Lf.take (j + 1) = Lf.take j ++ [x] := by rw [List.take_add_one, hx]; rfl
      have hsumj : sumN (Lf.take (j + 1)) ≤ sumN Lf := sumN_take Lf (j + 1)
      have hsx : sumN (Lf.take (j + 1)) = sumN (Lf.take j) + (names_ x).l.length := by rw [htk]; simp [sumN]
      have hnl := namesL_len lim names (Lf.take j)
      have hnew := namesL_snoc lim names (Lf.take j) x
      rw [← htk] at hnew
      obtain ⟨y1, y2, y3, y4, y5, y6, y7, y8, y9, y10, ⟨ya, yb, yc, yl⟩, ⟨za, zb, zc, zl⟩, ⟨wa, wb, wc, wl⟩⟩ := x
      have hz : RdL H75 sE 1 za zb zl := okx75.names
      have hzs : zb ≤ 300 := okx75.small
      have hzl := hz.len
      simp only [names_] at hsx hnew
      refine ⟨hL75.ob (by omega) (by omega), y1, y2, y3, y4, y5, y6, y7, y8, y9, y10, ya, yb, yc, za, zb, zc, wa, wb, wc, hxr, (cloneS_ok hz (by omega)).mono ?_⟩
      rintro _ H96 ⟨b1, q1, rfl, o1, s96, off1⟩
      refine ⟨b1, zb, q1, rfl, (delS_own (p := farB lim) s96 off1 o1 (by omega) fun G1 y Q hs hQ => ?_).mono ?_⟩
      · refine CallY.fn (by kernel_rfl) ?_
        exact far_ok' (e6.sub hs) (e5.sub hs) (hQ G1 (Sub.refl _))
      rintro _ H101 ⟨m2, q2, rfl, r2, s101⟩
      have hbk101 := hbk75.sub s101
      have hm2 := r2.len
      have hfl := List.length_filter_le (fun s => !farB lim s) zl
      have hnml := hnm75.len
      refine ⟨b1, m2, q2, rfl, obA k PA, obA k PA, oa2, n2, c2, hbk101.fldA rfl, fun k108 hk108 => ?_⟩
      have s108 := Sub.upd (.cells (([⟨oa2, n2, c2, namesL lim names (Lf.take j)⟩, ⟨b1, m2, q2, zl.filter fun s => !farB lim s⟩] : List TT).flatMap Sl.E).toArray 49 (0, 0)) hk108
      have hT : RdT (H101.upd k108 (.cells (([⟨oa2, n2, c2, namesL lim names (Lf.take j)⟩, ⟨b1, m2, q2, zl.filter fun s => !farB lim s⟩] : List TT).flatMap Sl.E).toArray 49 (0, 0))) (at0 k108) 2 [⟨oa2, n2, c2, namesL lim names (Lf.take j)⟩, ⟨b1, m2, q2, zl.filter fun s => !farB lim s⟩] := by
        refine ⟨Bx.rd (E := Sl.E) (sz := 1) (l := ([⟨oa2, n2, c2, namesL lim names (Lf.take j)⟩, ⟨b1, m2, q2, zl.filter fun s => !farB lim s⟩] : List TT)) (fun _ => rfl) (Bx.new H101 k108 49 _), fun p hp => ?_⟩
        simp at hp
        rcases hp with rfl | rfl
        · exact hnm75.mono ((sH.trans s101).trans s108)
        · exact r2.mono s108
      have hall : allT [⟨oa2, n2, c2, namesL lim names (Lf.take j)⟩, ⟨b1, m2, q2, zl.filter fun s => !farB lim s⟩] = namesL lim names (Lf.take j) ++ zl.filter fun s => !farB lim s := by simp [allT]
      refine (merge_own (c := 2) hT (by omega) (fun p hp => by
        simp at hp
        rcases hp with rfl | rfl
        · show n2 ≤ 100000; omega
        · show m2 ≤ 100000; omega) (by rw [hall, List.length_append]; omega)).mono ?_
      rintro _ H110 ⟨b3, m3, q3, R, rfl, r3, hmq, hRr, hRm, s110, off3⟩
      have hR : R = namesL lim names (Lf.take (j + 1)) := by
        rw [hnew]
        refine rising_ext hRr (mergeL_rising _).1 fun x => ?_
        rw [hRm, hall, (mergeL_rising _).2]
      have hsF : Sub F2 H110 := sH.trans (s101.trans (s108.trans s110))
      have s75 := s101.trans (s108.trans s110)
      have hbk110 := hbk75.sub s75
      have e6' := e6.sub s75
      have e5' := e5.sub s75
      have hown110 : OwnL H110 3 Hp.iE 1 ob mm dd S := Owns.mono hown75 fun a o _ hb => s75.le _ _ hb
      have hobm : ∀ q, q ∈ ob.toList.map (·.block) → ∃ a, ob = some a ∧ q = a.block := fun q hq => by
        obtain ⟨a, ha, rfl⟩ := List.mem_map.1 hq
        exact ⟨a, by simpa using ha, rfl⟩
      have hmob : ∀ a, ob = some a → a.block ∈ ob.toList.map (·.block) := fun a ha => List.mem_map.2 ⟨a, by simp [ha], rfl⟩
      rw [wrapS (by omega) (by omega)]
      refine ⟨b3, m3, q3, rfl, obA k PA, obA k PA, _, hbk110.putA (i := 0) (x := .slice b3 m3 q3) (by simp), ⟨by omega, by omega, rest H110 (k :: k5 :: k6 :: ob.toList.map (·.block)), b3, m3, q3, sF2.trans (rest_le hsF fun q hq => ?_), ?_, rest_none (by simp), rest_none (by simp), rest_none (by simp), fun a ha => rest_none (by simp only [List.mem_cons]; exact .inr (.inr (.inr (hmob a ha)))), Bx.new _ k _ _, ?_, e6'.upd_ne _ hk6k, e5'.upd_ne _ hk5k, ?_⟩, ⟨by simp only; omega⟩⟩
      · simp only [List.mem_cons] at hq
        rcases hq with rfl | rfl | rfl | hq
        · exact fk
        · exact f5
        · exact f6
        · obtain ⟨a, ha, rfl⟩ := hobm q hq
          exact fob a ha
      · exact rest_to fun q o hq ho => by rw [Vx.upd_ne _ _ (fun e => hq (by simp [e]))]; exact ho
      · rw [show ((j : Int) + 1).toNat = j + 1 by omega, ← hR]
        have offk := off3.sub s108
        exact r3.rest fun a ha hq => by
          simp only [List.mem_cons] at hq
          rcases hq with e | e | e | e
          · exact offk.ne hbk101 a ha e
          · exact offk.ne (e5.sub s101) a ha e
          · exact offk.ne (e6.sub s101) a ha e
          · obtain ⟨b, hb', e'⟩ := hobm _ e
            have hown101 : OwnL H101 3 Hp.iE 1 ob mm dd S := Owns.mono hown75 fun a o _ hb => s101.le _ _ hb
            subst hb'
            obtain ⟨o, ho⟩ := hown101.blk
            exact offk.ne ho a ha e'
      · exact Owns.mono hown110 fun a o ha hb => by rw [Vx.upd_ne _ _ (hne17 a ha).1]; exact hb
    · have hj' : ¬ j < k12 := by simpa using hj
      rw [List.take_of_length_le (by omega)] at hnm75
      refine ⟨lim.1, e6.reads, fun e => ?_, fun e => ?_⟩
      · have e' : lim.1 = false := by simpa using e
        refine ⟨lim.2, e5.reads, obA k PA, obA k PA, _, hbk75.putA (i := 1) (x := .string lim.2) (by simp), lim.1, (e6.upd_ne _ hk6k).reads, rfl, F2, hF10.trans sF2, ?_⟩
        rw [e', if_neg (by simp)]
        exact ⟨⟨fun q o hq => by rw [Vx.upd_ne _ _ (fun e => by rw [e, fk] at hq; cases hq)]; exact sH.le _ _ hq⟩, fk, oa2, n2, c2, ob, mm, dd, Bx.new _ k _ _, hnm75, Owns.mono hown75 fun a o ha hb => by rw [Vx.upd_ne _ _ (hne17 a ha).1]; exact hb, fob, fun a ha => (hne17 a ha).1⟩
      · have e' : lim.1 = true := by simpa using e
        refine ⟨lim.1, e6.reads, rfl, F2, hF10.trans sF2, ?_⟩
        rw [e', if_pos rfl]
        exact ⟨sH, fk, oa2, n2, c2, ob, mm, dd, hbk75, hnm75, hown75, fob, fun a ha => (hne17 a ha).1⟩
theorem fldM {H : PHeap} {oa : Option Addr} {x : Msg} (h : Reads H oa (mE x)) {j : Nat} {v : Value} (hv : (mE x)[j]? = some v) : Reads H (fldA oa j) [v] := h.fld j fun i u hu => by
  match i, hu with
  | 0, hu => simp at hu; subst hu; exact hv
  | i + 1, hu => simp at hu
/-- How many are sound. -/
def cntL (L : List Msg) : Nat := (L.filter fun m => kind_ m == 20 && stateL m == 1).length
theorem cnt_filter (L : List Msg) : ((L.filter fun m => kind_ m == 20).filter fun m => stateL m == 1).length = cntL L := by
  unfold cntL; rw [List.filter_filter]; congr 1; exact List.filter_congr fun m _ => Bool.and_comm _ _
theorem who_ok {H : PHeap} {m : Msg} (h : OkP H m) : Triple Tryz.prog 114 #[vM m, .int .i64 0] H fun v H' => v = .int .i64 (stateL m) ∧ H' = H := by
  obtain ⟨y1, y2, y3, y4, y5, y6, y7, y8, y9, y10, ⟨ya, yb, yc, yl⟩, ⟨za, zb, zc, zl⟩, ⟨wa, wb, wc, wl⟩⟩ := m
  have hw : RdL H iE 1 ya yb yl := h.who
  have hwl := hw.len
  refine refWho.vc y1 y2 y3 y4 y5 y6 y7 y8 y9 y10 ya yb yc za zb zc wa wb wc 0 H _ ⟨fun e => ?_, fun e => ?_⟩
  · have e' : yb = 0 := by simp at e; omega
    have : yl = [] := List.eq_nil_of_length_eq_zero (by omega)
    subst this
    exact ⟨rfl, rfl⟩
  · have e' : 0 < yb := by simp at e; omega
    obtain ⟨x, hx, hxr⟩ := hw.ex (i := (0 : Int)) (by omega) (by omega)
    refine ⟨hw.ob (by omega) (by omega), x, hxr, ?_, rfl⟩
    have : yl.head? = some x := by rw [List.head?_eq_getElem?]; simpa using hx
    simp [stateL, who_, this]
theorem enough_ok {F H : PHeap} {k : Nat} {names : List ByteArray} {after : ByteArray} {sus : List Int} {p : Plan} {oa : Option Addr} {n c : Nat} {L : List Msg} (h : PgT tp PA PB F H k names after sus) (hl : RdL F mE 13 oa n L) (hok : ∀ m ∈ L, OkP F m) (hn : n ≤ 100) :
    Triple Tryz.prog 87 #[.pointer (pt k PA), p.v, .slice oa n c] H fun v H' => v = .bool (p.ok && decide ((cntL L : Int) ≥ p.n - p.w + 1)) ∧ Sub H H' := by
  refine pEnough.vc (pt k PA) p.n p.t p.l p.w p.s p.r oa n c H _ ⟨fun _ => (right_ok p).use ⟨_, rfl, fun e => ?_, fun e => ?_⟩, fun e => by simp [pt, at0, fldA] at e⟩
  · have : p.ok = false := by simpa using e
    exact ⟨by rw [this]; rfl, Sub.refl _⟩
  have hp : p.ok = true := by simpa using e
  refine (listed_ok (hl.mono h.sub) (by omega)).mono ?_
  rintro _ H15 ⟨a, m, q, rfl, hL, hs, _⟩
  have hll : (L.filter fun m => kind_ m == 20).length = m := hL.len
  have hlen := List.length_filter_le (fun m => kind_ m == 20) L
  have hln := hl.len
  refine ⟨a, m, q, rfl, fun t H' => match t with | [.int _ z, .int _ i] => 0 ≤ i ∧ i ≤ m ∧ H' = H15 ∧ z = ((((L.filter fun m => kind_ m == 20).take i.toNat).filter fun m => stateL m == 1).length : Nat) | _ => False, fun t _ => match t with | [_, .int _ i] => (m - i).toNat | _ => 0, ⟨by omega, by omega, rfl, by simp⟩, ?_⟩
  rintro z i H23 ⟨i0, i1, hH, rfl⟩
  obtain rfl := hH.symm
  obtain ⟨i, rfl⟩ : ∃ j : Nat, i = j := ⟨i.toNat, by omega⟩
  rw [Int.toNat_natCast]
  have hcl : (((L.filter fun m => kind_ m == 20).take i).filter fun m => stateL m == 1).length ≤ i := by
    have := List.length_filter_le (fun m => stateL m == 1) ((L.filter fun m => kind_ m == 20).take i)
    rw [List.length_take] at this; omega
  refine ⟨fun hi => ?_, fun hi => ?_⟩
  · have hi' : i < m := by simpa using hi
    obtain ⟨x, hx, hxr⟩ := hL.ex (i := (i : Int)) (by omega) (by omega)
    rw [Int.toNat_natCast] at hx
    have okx := (hok x (List.mem_filter.1 (List.mem_of_getElem? hx)).1).mono (h.sub.trans hs)
    have st := state_ok okx
    have htk : (L.filter fun m => kind_ m == 20).take (i + 1) = (L.filter fun m => kind_ m == 20).take i ++ [x] := by rw [List.take_add_one, hx]; rfl
    obtain ⟨y1, y2, y3, y4, y5, y6, y7, y8, y9, y10, ⟨ya, yb, yc, yl⟩, ⟨za, zb, zc, zl⟩, ⟨wa, wb, wc, wl⟩⟩ := x
    refine ⟨hL.ob (by omega) (by omega), y1, y2, y3, y4, y5, y6, y7, y8, y9, y10, ya, yb, yc, za, zb, zc, wa, wb, wc, hxr, st.mono ?_⟩
    rintro _ H44 ⟨rfl, hH⟩
    obtain rfl := hH.symm
    rw [wrapS (by omega) (by omega), wrapS (by omega) (by omega)]
    refine ⟨_, rfl, ⟨by omega, by omega, rfl, ?_⟩, ⟨by simp only; omega⟩⟩
    rw [show ((i : Int) + 1).toNat = i + 1 by omega, htk, List.filter_append, List.length_append]
    cases hst : stateL (y1, y2, y3, y4, y5, y6, y7, y8, y9, y10, ⟨ya, yb, yc, yl⟩, ⟨za, zb, zc, zl⟩, ⟨wa, wb, wc, wl⟩) == 1 <;> simp [hst]
  · have hi' : ¬ i < m := by simpa using hi
    rw [List.take_of_length_le (by omega), cnt_filter]
    refine (quorum_ok H15 p).mono ?_
    rintro _ H47 ⟨rfl, hs2⟩
    refine ⟨_, rfl, ?_, hs.trans hs2⟩
    rw [hp, if_pos rfl]
    rfl
theorem refEnough_ok {H : PHeap} {p : Plan} {oa : Option Addr} {n c : Nat} {L : List Msg} (hl : RdL H mE 13 oa n L) (hok : ∀ m ∈ L, OkP H m) (hn : n ≤ 100) :
    Triple Tryz.prog 76 #[p.v, .slice oa n c] H fun v H' => v = .bool (p.ok && decide ((cntL L : Int) ≥ p.n - p.w + 1)) ∧ H' = H := by
  have hll := hl.len
  refine refEnough.vc p.n p.t p.l p.w p.s p.r oa n c H _ ⟨fun t H' => match t with | [.int _ z, .int _ i] => 0 ≤ i ∧ i ≤ n ∧ H' = H ∧ z = (cntL (L.take i.toNat) : Nat) | _ => False, fun t _ => match t with | [_, .int _ i] => (n - i).toNat | _ => 0, ⟨by omega, by omega, rfl, by simp [cntL]⟩, ?_⟩
  rintro z i H23 ⟨i0, i1, hH, rfl⟩
  obtain rfl := hH.symm
  obtain ⟨i, rfl⟩ : ∃ j : Nat, i = j := ⟨i.toNat, by omega⟩
  rw [Int.toNat_natCast]
  have hcl : cntL (L.take i) ≤ i := by
    have := List.length_filter_le (fun m => kind_ m == 20 && stateL m == 1) (L.take i)
    rw [List.length_take] at this; unfold cntL; omega
  refine ⟨fun hi => ?_, fun hi => ?_⟩
  · have hi' : i < n := by simpa using hi
    obtain ⟨x, hx, hxr⟩ := hl.ex (i := (i : Int)) (by omega) (by omega)
    rw [Int.toNat_natCast] at hx
    have okx := hok x (List.mem_of_getElem? hx)
    have st := who_ok okx
    have htk : L.take (i + 1) = L.take i ++ [x] := by rw [List.take_add_one, hx]; rfl
    have hcs : cntL (L.take (i + 1)) = cntL (L.take i) + if (kind_ x == 20 && stateL x == 1) = true then 1 else 0 := by
      unfold cntL
      rw [htk, List.filter_append, List.length_append]
      split <;> simp_all
    have hf0 := fldM (j := 0) hxr rfl
    obtain ⟨y1, y2, y3, y4, y5, y6, y7, y8, y9, y10, ⟨ya, yb, yc, yl⟩, ⟨za, zb, zc, zl⟩, ⟨wa, wb, wc, wl⟩⟩ := x
    rw [wrapS (by omega) (by omega), wrapS (by omega) (by omega)]
    refine ⟨hl.ob (by omega) (by omega), ⟨hl.elem_ne (by omega) (by omega)⟩, y1, hf0, fun e => ⟨hl.ob (by omega) (by omega), y1, y2, y3, y4, y5, y6, y7, y8, y9, y10, ya, yb, yc, za, zb, zc, wa, wb, wc, hxr, st.mono ?_⟩, fun e => ⟨⟨by omega, by omega, rfl, ?_⟩, ⟨by simp only; omega⟩⟩⟩
    · rintro _ H36 ⟨rfl, hH⟩
      obtain rfl := hH.symm
      refine ⟨_, rfl, ⟨by omega, by omega, rfl, ?_⟩, ⟨by simp only; omega⟩⟩
      rw [show ((i : Int) + 1).toNat = i + 1 by omega, hcs]
      simp only [kind_, e, Bool.true_and]
      cases hst : stateL (y1, y2, y3, y4, y5, y6, y7, y8, y9, y10, ⟨ya, yb, yc, yl⟩, ⟨za, zb, zc, zl⟩, ⟨wa, wb, wc, wl⟩) == 1 <;> simp [hst]
    · rw [show ((i : Int) + 1).toNat = i + 1 by omega, hcs]
      simp only [kind_, e]
      simp
  · have hi' : ¬ i < n := by simpa using hi
    rw [List.take_of_length_le (by omega)]
    refine (refRight_ok p).use ⟨_, rfl, ?_, rfl⟩
    congr 1
    cases hp : p.ok with
    | false => rfl
    | true =>
      have h := Plan.ok_iff.1 hp
      have := h.n1; have := h.n2; have := h.w1; have := h.w2
      rw [wrap64 (n := p.n - p.w) (by omega) (by omega), wrap64 (by omega) (by omega)]
      rfl
theorem maxT_t {a b : ByteArray} (h : lessS a b = true) : maxT a b = b := by unfold maxT; rw [if_pos h]
theorem maxT_f {a b : ByteArray} (h : lessS a b = false) : maxT a b = a := by unfold maxT; rw [if_neg (by simp [h])]
theorem maxT_no (x : ByteArray) : maxT noS x = x := by
  unfold maxT
  split
  · rfl
  · rename_i h
    by_cases e : x = noS
    · exact e.symm
    · rcases lessS_total (a := noS) (b := x) (fun h => e h.symm) with h1 | h1
      · exact absurd h1 h
      · exfalso
        unfold lessS at h1
        rw [show noS.toList = [] by rw [toListB], bytesLess_nil] at h1
        cases h1
theorem max_no (l : List ByteArray) : l.foldl maxT noS = maxL l := by
  cases l with
  | nil => rfl
  | cons x xs => rw [List.foldl_cons, maxT_no]; rfl
theorem greatest_ok {H : PHeap} {oa : Option Addr} {n c : Nat} {l : List ByteArray} (hl : RdL H sE 1 oa n l) (hn : n ≤ 1000) (hS : ∀ x ∈ l, x.size ≤ 1000000) :
    Triple Tryz.prog 115 #[.slice oa n c] H fun v H' => v = .string (maxL l) ∧ H' = H := by
  have hll := hl.len
  have hmem : ∀ i, (l.take i).foldl maxT noS = noS ∨ (l.take i).foldl maxT noS ∈ l := fun i => by
    rw [max_no]
    by_cases e : l.take i = []
    · left; rw [e]; rfl
    · right; exact List.mem_of_mem_take (maxL_mem e)
  refine greatest.vc oa n c H _ ⟨fun t H' => match t with | [.string s, .int _ i] => 0 ≤ i ∧ i ≤ n ∧ H' = H ∧ s = (l.take i.toNat).foldl maxT noS | _ => False, fun t _ => match t with | [_, .int _ i] => (n - i).toNat | _ => 0, ⟨by omega, by omega, rfl, rfl⟩, ?_⟩
  rintro s i H1 ⟨i0, i1, hH, rfl⟩
  obtain rfl := hH.symm
  obtain ⟨i, rfl⟩ : ∃ j : Nat, i = j := ⟨i.toNat, by omega⟩
  rw [Int.toNat_natCast]
  refine ⟨fun hi => ?_, fun hi => ?_⟩
  · have hi' : i < n := by simpa using hi
    obtain ⟨x, hx, hxr⟩ := hl.ex (i := (i : Int)) (by omega) (by omega)
    rw [Int.toNat_natCast] at hx
    have hsz : ((l.take i).foldl maxT noS).size ≤ 1000000 := by
      rcases hmem i with e | e
      · rw [e]; simp [noS, ByteArray.size]
      · exact hS _ e
    have hnx : (l.take (i + 1)).foldl maxT noS = maxT ((l.take i).foldl maxT noS) x := by rw [List.take_add_one, hx]; simp
    refine ⟨hl.ob (by omega) (by omega), x, hxr, (refLessS_ok hsz).use ⟨_, rfl, fun e => ⟨hl.ob (by omega) (by omega), x, hxr, ?_⟩, fun e => ?_⟩⟩
    · rw [wrapS (by omega) (by omega)]
      refine ⟨⟨by omega, by omega, rfl, ?_⟩, ⟨by simp only; omega⟩⟩
      rw [show ((i : Int) + 1).toNat = i + 1 by omega, hnx, maxT_t e]
    · rw [wrapS (by omega) (by omega)]
      refine ⟨⟨by omega, by omega, rfl, ?_⟩, ⟨by simp only; omega⟩⟩
      rw [show ((i : Int) + 1).toNat = i + 1 by omega, hnx, maxT_f e]
  · have hi' : ¬ i < n := by simpa using hi
    rw [List.take_of_length_le (by omega), max_no]
    exact ⟨rfl, rfl⟩
end Go.Page
namespace Go.Page
open Go.Vx Go.Vc Go.Proofs Go.Txt Go.Lab Go.Hp Go.Pln
/-- The reference's pages lie in the block k, apart from F, where what they name is read. -/
structure RT (H0 F H : PHeap) (k : Nat) (names : List ByteArray) (after : ByteArray) (sus : List Int) : Prop where
  st : Sub H0 F
  off : F k = none
  sub : Sub F H
  row : ∃ oa n c ob m d, Bx H k 54 [.slice oa n c, .string after, .slice ob m d] ∧ RdL F sE 1 oa n names ∧ n ≤ c ∧ RdL F Hp.iE 1 ob m sus
theorem filter_snoc (L : List Msg) (i : Nat) (x : Msg) (h : L[i]? = some x) : (L.take (i + 1)).filter (fun m => kind_ m == 20) = if kind_ x == 20 then (L.take i).filter (fun m => kind_ m == 20) ++ [x] else (L.take i).filter fun m => kind_ m == 20 := by
  rw [List.take_add_one, h, List.filter_append]
  cases hk : kind_ x == 20 <;> simp [hk]
theorem foldl_addL_rising {o l : List ByteArray} (h : Rising o) : l.foldl addL o = mergeL (o ++ l) := by
  refine rising_ext (foldl_rising l h).1 (mergeL_rising _).1 fun x => ?_
  rw [(foldl_rising l h).2, (mergeL_rising _).2, List.mem_append]
theorem refTurn_ok {H : PHeap} {names : List ByteArray} {after : ByteArray} {sus : List Int} {on : Option Addr} {nn cn : Nat} {os : Option Addr} {ns cs : Nat} {oa : Option Addr} {n c : Nat} {L : List Msg}
    (hnm : RdL H sE 1 on nn names) (hnc : nn ≤ cn) (hsu : RdL H Hp.iE 1 os ns sus) (hl : RdL H mE 13 oa n L) (hok : ∀ m ∈ L, OkP H m) (hn : n ≤ 100) (hS : ∀ m ∈ L, ∀ x ∈ (names_ m).l, x.size ≤ 40) (hN : ∀ x ∈ names, x.size ≤ 40) (hris : Rising names)
    (hsum : names.length + sumN (L.filter fun m => kind_ m == 20) ≤ 90000) (hsus : sus.length ≤ 90000) :
    Triple Tryz.prog 77 #[.agg #[.slice on nn cn, .string after, .slice os ns cs], .slice oa n c] H fun v H' => ∃ b m k b2 m2 k2 w F', v = .tuple #[.agg #[.slice b m k, .string (if (limL (L.filter fun m => kind_ m == 20)).1 then after else (limL (L.filter fun m => kind_ m == 20)).2), .slice b2 m2 k2], .bool w] ∧
      w = (limL (L.filter fun m => kind_ m == 20)).1 ∧ Sub H F' ∧ Sub F' H' ∧ RdL F' sE 1 b m (namesL (limL (L.filter fun m => kind_ m == 20)) names (L.filter fun m => kind_ m == 20)) ∧ m ≤ k ∧ RdL F' Hp.iE 1 b2 m2 (susL sus (L.filter fun m => kind_ m == 20)) := by
  have hll := hl.len
  refine refTurn.vc on nn cn after os ns cs oa n c H _ fun k11 hk11 => ?_
  have hR0 : RT H H (H.upd k11 (.cells #[.slice on nn cn, .string after, .slice os ns cs] 54 (0, 0))) k11 names after sus := ⟨Sub.refl _, hk11, Sub.upd _ hk11, on, nn, cn, os, ns, cs, Bx.new H k11 _ _, hnm, hnc, hsu⟩
  refine ⟨fun t H' => match t with | [.bool b, .string s, .int _ i] => 0 ≤ i ∧ i ≤ n ∧ (b, s) = limL ((L.take i.toNat).filter fun m => kind_ m == 20) ∧ ∃ F, RT H F H' k11 names after (susL sus ((L.take i.toNat).filter fun m => kind_ m == 20)) | _ => False, fun t _ => match t with | [_, _, .int _ i] => (n - i).toNat | _ => 0,
    ⟨by omega, by omega, rfl, H, hR0⟩, ?_⟩
  rintro b s i H17 ⟨i0, i1, hbs, F, hR⟩
  obtain ⟨i, rfl⟩ : ∃ j : Nat, i = j := ⟨i.toNat, by omega⟩
  rw [Int.toNat_natCast] at hbs hR
  have hsF := hR.st
  have hsH := hR.sub
  have hl17 := hl.mono (hsF.trans hsH)
  refine ⟨fun hi => ?_, fun hi => ?_⟩
  · have hi' : i < n := by simpa using hi
    obtain ⟨x, hx, hxr⟩ := hl17.ex (i := (i : Int)) (by omega) (by omega)
    rw [Int.toNat_natCast] at hx
    have hxm := List.mem_of_getElem? hx
    have okx := hok x hxm
    have hSx := hS x hxm
    have hob : ∀ {G : PHeap}, Sub F G → Ob (oa ≠ none ∧ 0 ≤ (i : Int) ∧ (i : Int) < n) := fun _ => hl17.ob (by omega) (by omega)
    have hne := hl17.elem_ne (i := (i : Int)) (by omega) (by omega)
    have hat : ∀ {G : PHeap}, Sub F G → Reads G (elemA oa (i : Int) 13) (mE x) := fun hs => (hl.mono (hsF.trans hs)).at (by omega) (by rw [Int.toNat_natCast]; exact hx)
    have hfs := filter_snoc L i x hx
    have hslen := susL_len sus ((L.take i).filter fun m => kind_ m == 20)
    have hfl := List.length_filter_le (fun m => kind_ m == 20) (L.take i)
    rw [List.length_take] at hfl
    have hf0 := fldM (j := 0) hxr rfl
    have st := who_ok (okx.mono (hsF.trans hsH))
    have hlsn := limL_snoc ((L.take i).filter fun m => kind_ m == 20) x
    have hssn := susL_snoc sus ((L.take i).filter fun m => kind_ m == 20) x
    have hw : wholeB x = (what_ x == 1 || (names_ x).l.isEmpty) := rfl
    have hf9 : ∀ {G : PHeap}, Sub F G → Reads G (fldA (elemA oa (i : Int) 13) 9) [.int .i64 (what_ x)] := fun hs => fldM (j := 9) (hat hs) rfl
    have hf11 : ∀ {G : PHeap}, Sub F G → Reads G (fldA (elemA oa (i : Int) 13) 11) [.slice (names_ x).oa (names_ x).n (names_ x).c] := fun hs => fldM (j := 11) (hat hs) rfl
    have hf1 : ∀ {G : PHeap}, Sub F G → Reads G (fldA (elemA oa (i : Int) 13) 1) [.int .i64 (from_ x)] := fun hs => fldM (j := 1) (hat hs) rfl
    have hzl := okx.names.len
    obtain ⟨y1, y2, y3, y4, y5, y6, y7, y8, y9, y10, ⟨ya, yb, yc, yl⟩, ⟨za, zb, zc, zl⟩, ⟨wa, wb, wc, wl⟩⟩ := x
    simp only [kind_, what_, names_, from_] at hf0 hfs hw hf9 hf11 hf1 hzl hlsn
    rw [wrapS (by omega) (by omega)]
    refine ⟨hob (Sub.refl _), ⟨hne⟩, y1, hf0, fun e => ?_, fun e => ⟨hob (Sub.refl _), y1, y2, y3, y4, y5, y6, y7, y8, y9, y10, ya, yb, yc, za, zb, zc, wa, wb, wc, hxr, st.mono ?_⟩⟩
    · have e' : (y1 == 20) = false := by simpa [bne] using e
      refine ⟨⟨by omega, by omega, ?_, F, ?_⟩, ⟨by simp only; omega⟩⟩
      · rw [show ((i : Int) + 1).toNat = i + 1 by omega, hfs, e']; exact hbs
      · rw [show ((i : Int) + 1).toNat = i + 1 by omega, hfs, e']; exact hR
    have e' : (y1 == 20) = true := by simpa [bne] using e
    rw [e', if_pos rfl] at hfs
    rintro _ H39 ⟨rfl, hH⟩
    obtain rfl := hH.symm
    refine ⟨_, rfl, ?_⟩
    apply both (C := fun H' => ∃ F', Sub F F' ∧ RT H F' H' k11 names after (susL sus ((L.take (i + 1)).filter fun m => kind_ m == 20)))
    · intro key
      refine ⟨fun e2 => ?_, fun e2 => ?_⟩
      · obtain ⟨oan, mn, qn, ob, m, d, hb, h2, h2c, h3⟩ := hR.row
        refine ⟨H17, Sub.refl _, obP k11, ob, m, d, hb.fld rfl, hob (Sub.refl _), ⟨hne⟩, y2, hf1 hsH, fun k46 hk46 => ⟨Sub.upd _ hk46, ?_⟩⟩
        have s46 := Sub.upd (.cells #[] 3 (0, 0)) hk46
        have hm := h3.len
        refine append_rd Rnd.tI (E := Hp.iE) (l := []) Hp.iLen (Owns.empty H17 k46 _ 1) ((h3.mono hsH).mono s46) Hp.iOne (by simp [maxLen]; omega) (by omega) ?_
        intro a49 c49 H48 how hf hfr
        rw [Nat.zero_add] at how ⊢
        rw [List.nil_append] at how
        have s48 : Sub H17 H48 := hf.sub s46 (off_at0 hk46)
        have o49 : Off H17 a49 := hfr.off s46 (off_at0 hk46)
        refine ⟨a49, m, c49, rfl, s48, fun k52 hk52 => ⟨s48.trans (Sub.upd _ hk52), ?_⟩⟩
        refine append_one Rnd.tI (E := Hp.iE) (x := y2) hk52 Hp.iLen how rfl (Hp.iOne _) (by simp [maxLen]; omega) (by omega) ?_
        intro a55 c55 H54 how2 hf2 hfr2 _
        have s54 : Sub H17 H54 := hf2.sub s48 o49
        have o55 : Off H17 a55 := hfr2.off s48 o49
        have hb54 := hb.sub s54
        have hF54 : Sub F (rest H54 [k11]) := rest_le (hsH.trans s54) fun q hq => by rw [List.mem_singleton] at hq; rw [hq]; exact hR.off
        have r55 : RdL (rest H54 [k11]) Hp.iE 1 a55 (m + 1) (susL sus ((L.take i).filter fun m => kind_ m == 20) ++ [y2]) := (how2.rd (E := Hp.iE) (sz := 1) (by omega) Hp.iLen).rest fun a ha => by simpa using o55.ne hb a ha
        refine ⟨a55, m + 1, c55, rfl, (Triple.ro (R := fun v F' => ∃ b k q, v = Value.slice b k q ∧ RdL F' Hp.iE 1 b k (restL (susL sus ((L.take i).filter fun m => kind_ m == 20) ++ [y2]) [])) ((refRest_ok (w := []) r55 (RdL.nil _ _ _) (by omega) (by omega)).mono ?_) (rest_sub _ _)).mono ?_⟩
        · rintro v F' ⟨b, k, q, g1, g2, _, g4⟩
          exact ⟨⟨b, k, q, g1, g2⟩, g4⟩
        rintro _ H59 ⟨F', ⟨b5, kb, qb, rfl, rb⟩, stay⟩
        have hb59 := (stay.hsub (rest_sub _ _)).le _ _ hb54
        have off59 : F' k11 = none := stay.none hb54 (rest_none (by simp))
        refine ⟨b5, kb, qb, rfl, obP k11, _, Bx.put (l := [.slice oan mn qn, .string after, .slice ob m d]) hb59 (i := 2) (x := .slice b5 kb qb) (by simp), ?_⟩
        have hFF' : Sub F F' := hF54.trans stay.fsub
        have hR2 : RT H F' (H59.upd k11 (.cells ([Value.slice oan mn qn, .string after, .slice ob m d].set 2 (.slice b5 kb qb)).toArray 54 (0, 0))) k11 names after (susL sus ((L.take (i + 1)).filter fun m => kind_ m == 20)) := by
          refine ⟨hsF.trans hFF', off59, stay.sub.wr off59, oan, mn, qn, b5, kb, qb, Bx.new _ _ _ _, h2.mono hFF', h2c, ?_⟩
          rw [hfs, hssn]
          unfold susStep
          rw [if_pos e2]
          exact rb
        generalize H59.upd k11 (.cells ([Value.slice oan mn qn, .string after, .slice ob m d].set 2 (.slice b5 kb qb)).toArray 54 (0, 0)) = H63 at hR2 ⊢
        exact key H63 ⟨F', hFF', hR2⟩
      · refine key H17 ⟨F, Sub.refl _, ?_⟩
        rw [hfs, hssn]
        unfold susStep
        rw [if_neg (by rw [e2]; simp)]
        exact hR
    · rintro H63 ⟨F', hFF', hR2⟩
      have hs63 := hFF'.trans hR2.sub
      have wr : ∀ {b' : Bool} {s' : ByteArray} {H' : PHeap}, Sub H63 H' → (b', s') = limL ((L.take (i + 1)).filter fun m => kind_ m == 20) → (0 ≤ (i : Int) + 1 ∧ (i : Int) + 1 ≤ n ∧ (b', s') = limL ((L.take ((i : Int) + 1).toNat).filter fun m => kind_ m == 20) ∧ ∃ F, RT H F H' k11 names after (susL sus ((L.take ((i : Int) + 1).toNat).filter fun m => kind_ m == 20))) ∧ Less ((n - ((i : Int) + 1)).toNat) ((n - (i : Int)).toNat) := by
        intro b' s' H' hs he
        rw [show ((i : Int) + 1).toNat = i + 1 by omega]
        obtain ⟨oan, mn, qn, ob, m, d, g1, g2, g3, g4⟩ := hR2.row
        exact ⟨⟨by omega, by omega, he, F', hR2.st, hR2.off, hR2.sub.trans hs, oan, mn, qn, ob, m, d, g1.sub hs, g2, g3, g4⟩, ⟨by omega⟩⟩
      refine ⟨hob hs63, ⟨hne⟩, y10, hf9 hs63, fun e3 => ⟨hob hs63, ⟨hne⟩, za, zb, zc, hf11 hs63, fun e4 => ⟨hob hs63, ⟨hne⟩, za, zb, zc, hf11 hs63, ?_⟩, fun e4 => ?_⟩, fun e3 => ?_⟩
      · have hz : RdL H sE 1 za zb zl := okx.names
        have hzs : zb ≤ 300 := okx.small
        have hz0 : 0 < zb := by simp at e4; omega
        have e3' : (y10 == 1) = false := by simpa [bne] using e3
        have hnw : wholeB (y1, y2, y3, y4, y5, y6, y7, y8, y9, y10, ⟨ya, yb, yc, yl⟩, ⟨za, zb, zc, zl⟩, ⟨wa, wb, wc, wl⟩) = false := by
          rw [hw, e3']
          cases zl with
          | nil => simp at hzl; omega
          | cons a l => rfl
        have hsz : (maxL zl).size ≤ 1000000 := by
          have h1 : zl ≠ [] := fun e => by rw [e] at hzl; simp at hzl; omega
          have : (maxL zl).size ≤ 40 := hSx _ (maxL_mem h1)
          omega
        rw [hnw, if_neg (by simp), ← hbs] at hlsn
        refine (greatest_ok (hz.mono (hsF.trans hs63)) (by omega) (fun x hx => by have := hSx x hx; omega)).mono ?_
        rintro _ H72 ⟨rfl, hH⟩
        obtain rfl := hH.symm
        refine ⟨_, rfl, fun e5 => (refLessS_ok hsz).use ⟨_, rfl, wr (Sub.refl _) ?_⟩, fun e5 => wr (Sub.refl _) ?_⟩
        · rw [hfs, hlsn, e5]
          unfold limStep
          cases hq : lessS (maxL zl) s <;> simp [hq]
        · have e5' : b = true := by simpa using e5
          rw [hfs, hlsn, e5']
          simp [limStep]
      · have hz0 : zb = 0 := by simp at e4; omega
        have hnil : zl = [] := List.eq_nil_of_length_eq_zero (by omega)
        have hnw : wholeB (y1, y2, y3, y4, y5, y6, y7, y8, y9, y10, ⟨ya, yb, yc, yl⟩, ⟨za, zb, zc, zl⟩, ⟨wa, wb, wc, wl⟩) = true := by rw [hw, hnil]; simp
        rw [hnw, if_pos rfl, ← hbs] at hlsn
        exact wr (Sub.refl _) (by rw [hfs, hlsn])
      · have e3' : (y10 == 1) = true := by simpa [bne] using e3
        have hnw : wholeB (y1, y2, y3, y4, y5, y6, y7, y8, y9, y10, ⟨ya, yb, yc, yl⟩, ⟨za, zb, zc, zl⟩, ⟨wa, wb, wc, wl⟩) = true := by rw [hw, e3']; rfl
        rw [hnw, if_pos rfl, ← hbs] at hlsn
        exact wr (Sub.refl _) (by rw [hfs, hlsn])
  · have hi' : ¬ i < n := by simpa using hi
    rw [List.take_of_length_le (by omega)] at hbs hR
    generalize hlimd : limL (L.filter fun m => kind_ m == 20) = lim at *
    generalize hsud : susL sus (L.filter fun m => kind_ m == 20) = S at *
    subst hbs
    have hrn : ∀ j, Rising (namesL (b, s) names ((L.take j).filter fun m => kind_ m == 20)) := fun j => rising_namesL _ _ hris
    have hnsz : ∀ (L' : List Msg) (nm : List ByteArray), (∀ m ∈ L', ∀ x ∈ (names_ m).l, x.size ≤ 40) → (∀ x ∈ nm, x.size ≤ 40) → ∀ x ∈ namesL (b, s) nm L', x.size ≤ 40 := fun L' nm h1 h2 x hx => by
      rcases (mem_namesL _ L' nm x).1 hx with h | ⟨m, hm, h, _⟩
      · exact h2 x h
      · exact h1 m hm x h
    have hsN : ∀ j, sumN ((L.take j).filter fun m => kind_ m == 20) ≤ sumN (L.filter fun m => kind_ m == 20) := fun j => by
      have e : L.filter (fun m => kind_ m == 20) = (L.take j).filter (fun m => kind_ m == 20) ++ (L.drop j).filter (fun m => kind_ m == 20) := by rw [← List.filter_append, List.take_append_drop]
      rw [e]
      unfold sumN
      rw [List.map_append, List.sum_append]; omega
    refine ⟨fun t H' => match t with | [.int _ j] => 0 ≤ j ∧ j ≤ n ∧ ∃ F, RT H F H' k11 (namesL (b, s) names ((L.take j.toNat).filter fun m => kind_ m == 20)) after S | _ => False, fun t _ => match t with | [.int _ j] => (n - j).toNat | _ => 0, ⟨by omega, by omega, F, hR⟩, ?_⟩
    rintro j H57 ⟨j0, j1, F2, hR2⟩
    obtain ⟨j, rfl⟩ : ∃ z : Nat, j = z := ⟨j.toNat, by omega⟩
    rw [Int.toNat_natCast] at hR2
    refine ⟨fun hj => ?_, fun hj => ?_⟩
    · have hj' : j < n := by simpa using hj
      obtain ⟨x, hx⟩ : ∃ x, L[j]? = some x := ⟨_, List.getElem?_eq_getElem (by omega)⟩
      have hxm := List.mem_of_getElem? hx
      have okx := hok x hxm
      have hSx := hS x hxm
      have hfs := filter_snoc L j x hx
      have hnsn := namesL_snoc (b, s) names ((L.take j).filter fun m => kind_ m == 20) x
      have hzl := okx.names.len
      have hzs := okx.small
      have hat : ∀ {G : PHeap}, Sub H G → Reads G (elemA oa (j : Int) 13) (mE x) := fun hs => (hl.mono hs).at (by omega) (by rw [Int.toNat_natCast]; exact hx)
      have hf0 : ∀ {G : PHeap}, Sub H G → Reads G (fldA (elemA oa (j : Int) 13) 0) [.int .i64 (kind_ x)] := fun hs => fldM (j := 0) (hat hs) rfl
      have hf11 : ∀ {G : PHeap}, Sub H G → Reads G (fldA (elemA oa (j : Int) 13) 11) [.slice (names_ x).oa (names_ x).n (names_ x).c] := fun hs => fldM (j := 11) (hat hs) rfl
      have hob : Ob (oa ≠ none ∧ 0 ≤ (j : Int) ∧ (j : Int) < n) := hl.ob (by omega) (by omega)
      have hne := hl.elem_ne (i := (j : Int)) (by omega) (by omega)
      generalize hN0 : namesL (b, s) names ((L.take j).filter fun m => kind_ m == 20) = N0 at *
      have hrN0 : Rising N0 := by rw [← hN0]; exact hrn j
      have hszN0 : ∀ x ∈ N0, x.size ≤ 40 := by
        rw [← hN0]
        exact hnsz _ _ (fun m hm => hS m (List.mem_of_mem_take (List.mem_filter.1 hm).1)) hN
      have hlN0 : N0.length ≤ 90000 := by
        have h1 := namesL_len (b, s) names ((L.take j).filter fun m => kind_ m == 20)
        rw [hN0] at h1
        have h2 := hsN j
        omega
      refine ⟨fun t H' => match t with | [.int _ z] => 0 ≤ z ∧ z ≤ (names_ x).n ∧ (z = 0 ∨ (kind_ x == 20) = true) ∧ ∃ F, RT H F H' k11 ((((names_ x).l.take z.toNat).filter fun y => !farB (b, s) y).foldl addL N0) after S | _ => False, fun t _ => match t with | [.int _ z] => ((names_ x).n - z).toNat | _ => 0, ⟨by omega, by omega, .inl rfl, F2, hR2⟩, ?_⟩
      rintro z H61 ⟨z0, z1, zk, F3, hR3⟩
      obtain ⟨z, rfl⟩ : ∃ q : Nat, z = q := ⟨z.toNat, by omega⟩
      rw [Int.toNat_natCast] at hR3
      have hsH3 := hR3.st.trans hR3.sub
      refine ⟨hob, ⟨hne⟩, kind_ x, hf0 hsH3, fun e1 => ⟨hob, ⟨hne⟩, (names_ x).oa, (names_ x).n, (names_ x).c, hf11 hsH3, fun e2 => ?_, fun e2 => ?_⟩, fun e1 => ?_⟩
      · have hz' : z < (names_ x).n := by simpa using e2
        have hzr := okx.names.mono hsH3
        obtain ⟨y, hy, hyr⟩ := hzr.ex (i := (z : Int)) (by omega) (by omega)
        rw [Int.toNat_natCast] at hy
        have hy40 := hSx y (List.mem_of_getElem? hy)
        have htk : (names_ x).l.take (z + 1) = (names_ x).l.take z ++ [y] := by rw [List.take_add_one, hy]; rfl
        have htf := List.length_filter_le (fun y => !farB (b, s) y) ((names_ x).l.take z)
        rw [List.length_take] at htf
        obtain ⟨oan, mn, qn, ob, m, d, hb, h2, h2c, h3⟩ := hR3.row
        have hlN := foldl_len (((names_ x).l.take z).filter fun y => !farB (b, s) y) N0
        have hml := h2.len
        have hszN : ∀ u ∈ ((((names_ x).l.take z).filter fun y => !farB (b, s) y).foldl addL N0), u.size ≤ 1000000 := fun u hu => by
          rcases ((foldl_rising _ hrN0).2 u).1 hu with h | h
          · have := hszN0 u h; omega
          · have := hSx u (List.mem_of_mem_take (List.mem_filter.1 h).1); omega
        rw [wrapS (by omega) (by omega)]
        -- one more name
        have add : farB (b, s) y = false → Triple Tryz.prog 117 #[.slice oan mn qn, .string y] H61 fun v H' => ∃ a k q, v = Value.slice a k q ∧ Ob (at0 k11 ≠ none) ∧ ∃ H'', Writes H' H'' (fldA (at0 k11) 0) [.slice a k q] ∧
            ((0 ≤ (z : Int) + 1 ∧ (z : Int) + 1 ≤ (names_ x).n ∧ ((z : Int) + 1 = 0 ∨ (kind_ x == 20) = true) ∧ ∃ F, RT H F H'' k11 ((((names_ x).l.take ((z : Int) + 1).toNat).filter fun y => !farB (b, s) y).foldl addL N0) after S) ∧ Less (((names_ x).n - ((z : Int) + 1)).toNat) (((names_ x).n - (z : Int)).toNat)) := by
          intro hf
          refine (Triple.ro (R := fun v F' => ∃ b' m k, v = Value.slice b' m k ∧ RdL F' sE 1 b' m (addL ((((names_ x).l.take z).filter fun y => !farB (b, s) y).foldl addL N0) y) ∧ m ≤ k) ((add_ok h2 h2c (by omega) hszN).mono ?_) hR3.sub).mono ?_
          · rintro v F' ⟨b', m, k, g1, g2, g3, g4⟩
            exact ⟨⟨b', m, k, g1, g2, g3⟩, g4⟩
          rintro _ H' ⟨F4, ⟨b', m', k', rfl, g2, g3⟩, stay⟩
          have hb' := (stay.hsub hR3.sub).le _ _ hb
          have off' : F4 k11 = none := stay.none hb hR3.off
          refine ⟨b', m', k', rfl, obP k11, _, Bx.put (l := [.slice oan mn qn, .string after, .slice ob m d]) hb' (i := 0) (x := .slice b' m' k') (by simp), ⟨by omega, by omega, .inr e1, F4, hR3.st.trans stay.fsub, off', stay.sub.wr off', b', m', k', ob, m, d, Bx.new _ _ _ _, ?_, g3, h3.mono stay.fsub⟩, ⟨by omega⟩⟩
          rw [show ((z : Int) + 1).toNat = z + 1 by omega, htk, List.filter_append, List.foldl_append]
          simpa [hf] using g2
        refine ⟨fun e3 => ⟨hob, ⟨hne⟩, (names_ x).oa, (names_ x).n, (names_ x).c, hf11 hsH3, hzr.ob (by omega) (by omega), y, hyr, ?_⟩, fun e3 => ?_⟩
        · have hsz : s.size ≤ 1000000 := by
            -- the limit is one of the names, or none
            have := (lim_fold (L.filter fun m => kind_ m == 20) (true, noS)).2
            rw [show (L.filter fun m => kind_ m == 20).foldl (fun st m => if wholeB m then st else limStep st (maxL (names_ m).l)) (true, noS) = (b, s) from hlimd] at this
            rcases (this e3).1 with ⟨_, h⟩ | ⟨m, hm, hwm, h⟩
            · rw [show s = noS from h]; simp [noS, ByteArray.size]
            · have h1 : (names_ m).l ≠ [] := fun e => by simp [wholeB, e] at hwm
              have := hS m (List.mem_filter.1 hm).1 _ (maxL_mem h1)
              rw [show s = maxL (names_ m).l from h]; omega
          refine (refLessS_ok hsz).use ⟨_, rfl, fun e4 => ⟨H61, Sub.refl _, obP k11, oan, mn, qn, hb.fld rfl, hob, ⟨hne⟩, (names_ x).oa, (names_ x).n, (names_ x).c, hf11 hsH3, hzr.ob (by omega) (by omega), y, hyr, add ?_⟩, fun e4 => ?_⟩
          · have : lessS s y = false := by simpa using e4
            simp [farB, e3, this]
          · have hfar : farB (b, s) y = true := by
              have : lessS s y = true := by simpa using e4
              simp [farB, e3, this]
            refine ⟨⟨by omega, by omega, .inr e1, F3, ?_⟩, ⟨by simp only; omega⟩⟩
            rw [show ((z : Int) + 1).toNat = z + 1 by omega, htk, List.filter_append]
            simpa [hfar] using hR3
        · have e3' : b = true := by simpa using e3
          exact ⟨H61, Sub.refl _, obP k11, oan, mn, qn, hb.fld rfl, hob, ⟨hne⟩, (names_ x).oa, (names_ x).n, (names_ x).c, hf11 hsH3, hzr.ob (by omega) (by omega), y, hyr, add (by simp [farB, e3'])⟩
      · have hz' : ¬ z < (names_ x).n := by simpa using e2
        rw [List.take_of_length_le (by omega), foldl_addL_rising hrN0] at hR3
        rw [wrapS (by omega) (by omega)]
        refine ⟨⟨by omega, by omega, F3, ?_⟩, ⟨by simp only; omega⟩⟩
        rw [show ((j : Int) + 1).toNat = j + 1 by omega, hfs, if_pos e1, hnsn]
        exact hR3
      · have e1' : (kind_ x == 20) = false := by simpa using e1
        have hz0 : z = 0 := by
          rcases zk with h | h
          · omega
          · rw [e1'] at h; cases h
        subst hz0
        rw [wrapS (by omega) (by omega)]
        refine ⟨⟨by omega, by omega, F3, ?_⟩, ⟨by simp only; omega⟩⟩
        rw [show ((j : Int) + 1).toNat = j + 1 by omega, hfs, e1']
        simpa [hN0] using hR3
    · have hj' : ¬ j < n := by simpa using hj
      rw [List.take_of_length_le (by omega)] at hR2
      obtain ⟨oan, mn, qn, ob, m, d, hb, h2, h2c, h3⟩ := hR2.row
      refine ⟨fun e => ?_, fun e => ?_⟩
      · have e' : b = false := by simpa using e
        have hb' := Bx.new H57 k11 54 ([.slice oan mn qn, .string after, .slice ob m d].set 1 (.string s))
        refine ⟨obP k11, _, hb.put (i := 1) (x := .string s) (by simp), oan, mn, qn, s, ob, m, d, hb'.reads, oan, mn, qn, ob, m, d, b, F2, ?_, rfl, hR2.st, hR2.sub.wr hR2.off, h2, h2c, h3⟩
        rw [e']; rfl
      · have e' : b = true := by simpa using e
        refine ⟨oan, mn, qn, after, ob, m, d, hb.reads, oan, mn, qn, ob, m, d, b, F2, ?_, rfl, hR2.st, hR2.sub, h2, h2c, h3⟩
        rw [e']; rfl
end Go.Page
namespace Go.Vc
open Go.Vx Go Go.Proofs.Tryz
def cHelpers.cx : Cx := ⟨[], [], [], []⟩
def cTargets.cx : Cx := ⟨[], [], [], []⟩
def cThose.cx : Cx := ⟨[3], [], [], []⟩
def cThose1.cx : Cx := ⟨[], [], [], []⟩
def cFirst.cx : Cx := ⟨[], [], [], []⟩
def delI.cx : Cx := ⟨[], [(5, [5, 6], [])], [], []⟩
def planIs.cx : Cx := ⟨[], [], [], []⟩
def planNeed.cx : Cx := ⟨[1], [], [], []⟩
def planNeed1.cx : Cx := ⟨[], [], [], []⟩
def refPIs.cx : Cx := ⟨[], [], [], []⟩
def refLeast.cx : Cx := ⟨[], [(3, [10, 11], [])], [], []⟩
def refHelpers.cx : Cx := ⟨[], [], [], []⟩
def refTargets.cx : Cx := ⟨[], [(3, [5, 6], [])], [], []⟩
def rGone.cx : Cx := ⟨[], [(4, [5, 6, 7], [])], [], []⟩
def sGone.cx : Cx := ⟨[], [], [], []⟩
def sGone1.cx : Cx := ⟨[], [], [], []⟩
def sGone2.cx : Cx := ⟨[], [], [], []⟩
theorem cHelpers.vc (n1 n2 n3 n4 n5 n6 : Int) (a7 : Option Addr) (k8 k9 : Nat) (n10 : Int) (H : PHeap) (Q : Value -> PHeap -> Prop)
 (h : Triple prog 95 #[.agg #[iw n1, iw n2, iw n3, iw n4, iw n5, iw n6], iw n10] H fun v11 H12 => ∃ b13, v11 = .bool b13 /\ ((!b13) = true -> Q (.tuple #[sw none 0 0, .bool false]) H12) /\ ((!b13) = false -> ∃ H14,
 Vx.Sub H14 H12 /\ Triple prog 97 #[.agg #[iw n1, iw n2, iw n3, iw n4, iw n5, iw n6], sw a7 k8 k9, iw n10] H12 fun v15 H16 => ∃ a17 k18 k19, v15 = sw a17 k18 k19 /\ Vx.Sub H14 H16 /\ Triple prog 98
 #[.agg #[iw n1, iw n2, iw n3, iw n4, iw n5, iw n6]] H16 fun v20 H21 => ∃ n22, v20 = iw n22 /\ Triple prog 96 #[sw a17 k18 k19, iw n22] H21 fun v23 H24 =>
 ∃ a25 k26 k27 b28, v23 = .tuple #[sw a25 k26 k27, .bool b28] /\ Q (.tuple #[sw a25 k26 k27, .bool b28]) H24)) : Triple prog 58 ([.agg #[iw n1, iw n2, iw n3, iw n4, iw n5, iw n6], sw a7 k8 k9, iw n10]).toArray H Q :=
 Triple.of_vc cHelpers.cx (by kernel_rfl) h
theorem cTargets.vc (n1 n2 n3 n4 n5 n6 : Int) (a7 : Option Addr) (k8 k9 : Nat) (H : PHeap) (Q : Value -> PHeap -> Prop)
 (h : Triple prog 85 #[.agg #[iw n1, iw n2, iw n3, iw n4, iw n5, iw n6]] H fun v10 H11 => ∃ a12 k13 k14, v10 = sw a12 k13 k14 /\
 Triple prog 61 #[sw a12 k13 k14, sw a7 k8 k9] H11 fun v15 H16 => ∃ a17 k18 k19, v15 = sw a17 k18 k19 /\ Q (sw a17 k18 k19) H16) :
 Triple prog 156 ([.agg #[iw n1, iw n2, iw n3, iw n4, iw n5, iw n6], sw a7 k8 k9]).toArray H Q := Triple.of_vc cTargets.cx (by kernel_rfl) h
theorem cThose.vc (n1 n2 n3 n4 n5 n6 : Int) (a7 : Option Addr) (k8 k9 : Nat) (n10 : Int) (H : PHeap) (Q : Value -> PHeap -> Prop)
 (h : ∀ (k11 : Nat), H k11 = none -> ∀ (k12 : Nat), H.upd k11 (Obj.cells #[iw n1, iw n2, iw n3, iw n4, iw n5, iw n6] 23) k12 = none -> Triple prog 61 #[sw a7 k8 k9, sw (at0 k12) 1 1]
 ((H.upd k11 (Obj.cells #[iw n1, iw n2, iw n3, iw n4, iw n5, iw n6] 23)).upd k12 (Obj.cells #[iw n10] 3)) fun v13 H14 => ∃ a15 k16 k17, v13 = sw a15 k16 k17 /\
 Triple prog 137 #[sw a15 k16 k17, Value.func (Fn.func 138) #[] #[.pointer (at0 k11)]] H14 fun v18 H19 => ∃ a20 k21 k22, v18 = sw a20 k21 k22 /\ Q (sw a20 k21 k22) H19) :
 Triple prog 97 ([.agg #[iw n1, iw n2, iw n3, iw n4, iw n5, iw n6], sw a7 k8 k9, iw n10]).toArray H Q := Triple.of_vc cThose.cx (by kernel_rfl) h
theorem cThose1.vc (n1 : Int) (a2 : Option Addr) (H : PHeap) (Q : Value -> PHeap -> Prop)
 (h : ∃ n3 n4 n5 n6 n7 n8, Reads H a2 [iw n3, iw n4, iw n5, iw n6, iw n7, iw n8] /\ Triple prog 95 #[.agg #[iw n3, iw n4, iw n5, iw n6, iw n7, iw n8], iw n1]
 H fun v9 H10 => ∃ b11, v9 = .bool b11 /\ Q (.bool !b11) H10) : Triple prog 138 ([iw n1, .pointer a2]).toArray H Q := Triple.of_vc cThose1.cx (by kernel_rfl) h
theorem cFirst.vc (a1 : Option Addr) (k2 k3 : Nat) (n4 : Int) (H : PHeap) (Q : Value -> PHeap -> Prop)
 (h : ((bif decide (n4 < 1) then true else decide ((k2 : Int) < n4)) = true -> Q (.tuple #[sw none 0 0, .bool false]) H) /\ ((bif decide (n4 < 1) then true else decide ((k2 : Int) < n4)) = false ->
 Ob ((0 : Int) ≤ 0 /\ 0 ≤ n4 /\ n4 ≤ n4 /\ n4 ≤ (k3 : Int)) /\ Q (.tuple #[sw (slA a1 0 n4.toNat 1) (n4.toNat - Int.toNat 0) (n4.toNat - Int.toNat 0), .bool true]) H)) :
 Triple prog 96 ([sw a1 k2 k3, iw n4]).toArray H Q := Triple.of_vc cFirst.cx (by kernel_rfl) h
theorem delI.vc (a1 : Option Addr) (k2 k3 : Nat) (v4 : Value) (H : PHeap) (Q : Value -> PHeap -> Prop)
 (h : Triple prog 118 #[sw a1 k2 k3, v4] H fun v5 H6 => ∃ n7, v5 = iw n7 /\ ((n7 == -1) = true -> Q (sw a1 k2 k3) H6) /\ ((n7 == -1) = false -> ∃ (R8 : Rl) (M9 : Mu), R8 [iw n7, iw (IntKind.i64.wrap (n7 + 1))] H6 /\
 ∀ (n10 n11 : Int) (H12 : PHeap), R8 [iw n10, iw n11] H12 -> (decide (n11 < (k2 : Int)) = true -> Ob (a1 ≠ none /\ 0 ≤ n11 /\ n11 < (k2 : Int)) /\ ∃ n13, Reads H12 (elemA a1 n11 1) [iw n13] /\
 CallY prog v4 #[iw n13] H12 fun v14 H15 => ∃ b16, v14 = .bool b16 /\ ((!b16) = true -> Ob (a1 ≠ none /\ 0 ≤ n10 /\ n10 < (k2 : Int)) /\ ∃ H17, Writes H15 H17 (elemA a1 n10 1) [iw n13] /\
 R8 [iw (IntKind.i64.wrap (n10 + 1)), iw (IntKind.i64.wrap (n11 + 1))] H17 /\ Less (M9 [iw (IntKind.i64.wrap (n10 + 1)), iw (IntKind.i64.wrap (n11 + 1))] H17) (M9 [iw n10, iw n11] H12)) /\ ((!b16) = false ->
 R8 [iw n10, iw (IntKind.i64.wrap (n11 + 1))] H15 /\ Less (M9 [iw n10, iw (IntKind.i64.wrap (n11 + 1))] H15) (M9 [iw n10, iw n11] H12))) /\ (decide (n11 < (k2 : Int)) = false ->
 Ob (0 ≤ n10 /\ n10 ≤ (k2 : Int) /\ (k2 : Int) ≤ (k3 : Int)) /\ EvV prog (Builtin.clear_ #[42] 0 #[sw (slA a1 n10 k3 1) ((k2 : Int).toNat - n10.toNat) (k3 - n10.toNat)]) H12 fun v18 H19 =>
 Ob ((0 : Int) ≤ 0 /\ 0 ≤ n10 /\ n10 ≤ (k3 : Int)) /\ Q (sw (slA a1 0 k3 1) (n10.toNat - Int.toNat 0) (k3 - Int.toNat 0)) H19))) : Triple prog 137 ([sw a1 k2 k3, v4]).toArray H Q :=
 Triple.of_vc delI.cx (by kernel_rfl) h
theorem planIs.vc (n1 n2 n3 n4 n5 n6 n7 : Int) (H : PHeap) (Q : Value -> PHeap -> Prop)
 (h : Triple prog 19 #[.agg #[iw n1, iw n2, iw n3, iw n4, iw n5, iw n6]] H fun v8 H9 => ∃ b10, v8 = .bool b10 /\
 (b10 = true -> Triple prog 52 #[iw n7, iw 1, iw n1] H9 fun v11 H12 => ∃ b13, v11 = .bool b13 /\ Q (.bool b13) H12) /\ (b10 = !true -> Q (.bool false) H9)) :
 Triple prog 95 ([.agg #[iw n1, iw n2, iw n3, iw n4, iw n5, iw n6], iw n7]).toArray H Q := Triple.of_vc planIs.cx (by kernel_rfl) h
theorem planNeed.vc (n1 n2 n3 n4 n5 n6 : Int) (H : PHeap) (Q : Value -> PHeap -> Prop)
 (h : ∀ (k7 : Nat), H k7 = none -> ∃ n8 n9 n10 n11 n12 n13, Reads (H.upd k7 (Obj.cells #[iw n1, iw n2, iw n3, iw n4, iw n5, iw n6] 23)) (at0 k7) [iw n8, iw n9, iw n10, iw n11, iw n12, iw n13] /\ Triple prog 139
 #[.agg #[iw n8, iw n9, iw n10, iw n11, iw n12, iw n13], Value.func (Fn.func 140) #[] #[.pointer (at0 k7)]] (H.upd k7 (Obj.cells #[iw n1, iw n2, iw n3, iw n4, iw n5, iw n6] 23))
 fun v14 H15 => ∃ n16, v14 = iw n16 /\ Q (iw n16) H15) : Triple prog 98 ([.agg #[iw n1, iw n2, iw n3, iw n4, iw n5, iw n6]]).toArray H Q := Triple.of_vc planNeed.cx (by kernel_rfl) h
theorem planNeed1.vc (a1 : Option Addr) (H : PHeap) (Q : Value -> PHeap -> Prop)
 (h : Ob (a1 ≠ none) /\ ∃ n2, Reads H (fldA a1 1) [iw n2] /\ Ob (a1 ≠ none) /\ ∃ n3, Reads H (fldA a1 2) [iw n3] /\ Q (iw (IntKind.i64.wrap (n2 + n3))) H) : Triple prog 140 ([.pointer a1]).toArray H Q :=
 Triple.of_vc planNeed1.cx (by kernel_rfl) h
theorem refPIs.vc (n1 n2 n3 n4 n5 n6 n7 : Int) (H : PHeap) (Q : Value -> PHeap -> Prop)
 (h : Q (.bool (bif decide (n7 ≥ 1) then decide (n7 ≤ n1) else false)) H) : Triple prog 145 ([.agg #[iw n1, iw n2, iw n3, iw n4, iw n5, iw n6], iw n7]).toArray H Q := Triple.of_vc refPIs.cx (by kernel_rfl) h
theorem refLeast.vc (n1 n2 n3 n4 n5 n6 : Int) (a7 : Option Addr) (k8 k9 : Nat) (n10 n11 : Int) (H : PHeap) (Q : Value -> PHeap -> Prop)
 (h : ∃ (R12 : Rl) (M13 : Mu), R12 [sw none 0 0, iw 1] H /\ ∀ (a14 : Option Addr) (k15 k16 : Nat) (n17 : Int) (H18 : PHeap), R12 [sw a14 k15 k16, iw n17] H18 ->
 ((bif decide (n17 ≤ n1) then decide ((k15 : Int) < n11) else false) = true -> ((n17 != n10) = true -> Triple prog 47 #[sw a7 k8 k9, iw n17] H18 fun v19 H20 => ∃ b21, v19 = .bool b21 /\ (b21 = true -> ∀ (k22 : Nat),
 H20 k22 = none -> EvV prog (Builtin.append_ #[42, 42] 42 #[sw a14 k15 k16, sw (at0 k22) 1 1]) (H20.upd k22 (Obj.cells #[iw n17] 3)) fun v23 H24 => ∃ a25 k26 k27, v23 = sw a25 k26 k27 /\
 R12 [sw a25 k26 k27, iw (IntKind.i64.wrap (n17 + 1))] H24 /\ Less (M13 [sw a25 k26 k27, iw (IntKind.i64.wrap (n17 + 1))] H24) (M13 [sw a14 k15 k16, iw n17] H18)) /\ (b21 = false ->
 R12 [sw a14 k15 k16, iw (IntKind.i64.wrap (n17 + 1))] H20 /\ Less (M13 [sw a14 k15 k16, iw (IntKind.i64.wrap (n17 + 1))] H20) (M13 [sw a14 k15 k16, iw n17] H18))) /\ ((n17 != n10) = !true ->
 R12 [sw a14 k15 k16, iw (IntKind.i64.wrap (n17 + 1))] H18 /\ Less (M13 [sw a14 k15 k16, iw (IntKind.i64.wrap (n17 + 1))] H18) (M13 [sw a14 k15 k16, iw n17] H18))) /\
 ((bif decide (n17 ≤ n1) then decide ((k15 : Int) < n11) else false) = false -> (decide ((k15 : Int) < n11) = true -> Q (.tuple #[sw none 0 0, .bool false]) H18) /\
 (decide ((k15 : Int) < n11) = false -> Q (.tuple #[sw a14 k15 k16, .bool true]) H18))) : Triple prog 146 ([.agg #[iw n1, iw n2, iw n3, iw n4, iw n5, iw n6], sw a7 k8 k9, iw n10, iw n11]).toArray H Q :=
 Triple.of_vc refLeast.cx (by kernel_rfl) h
theorem refHelpers.vc (n1 n2 n3 n4 n5 n6 : Int) (a7 : Option Addr) (k8 k9 : Nat) (n10 : Int) (H : PHeap) (Q : Value -> PHeap -> Prop)
 (h : Triple prog 16 #[.agg #[iw n1, iw n2, iw n3, iw n4, iw n5, iw n6]] H fun v11 H12 => ∃ b13, v11 = .bool b13 /\ ((!b13) = false -> Triple prog 145 #[.agg #[iw n1, iw n2, iw n3, iw n4, iw n5, iw n6], iw n10]
 H12 fun v14 H15 => ∃ b16, v14 = .bool b16 /\ ((!b16) = true -> Q (.tuple #[sw none 0 0, .bool false]) H15) /\ ((!b16) = false -> Triple prog 146 #[.agg #[iw n1, iw n2, iw n3, iw n4, iw n5, iw n6],
 sw a7 k8 k9, iw n10, iw (IntKind.i64.wrap (n2 + n3))] H15 fun v17 H18 => ∃ a19 k20 k21 b22, v17 = .tuple #[sw a19 k20 k21, .bool b22] /\ Q (.tuple #[sw a19 k20 k21, .bool b22]) H18)) /\
 ((!b13) = !false -> Q (.tuple #[sw none 0 0, .bool false]) H12)) : Triple prog 111 ([.agg #[iw n1, iw n2, iw n3, iw n4, iw n5, iw n6], sw a7 k8 k9, iw n10]).toArray H Q := Triple.of_vc refHelpers.cx (by kernel_rfl) h
theorem refTargets.vc (n1 n2 n3 n4 n5 n6 : Int) (a7 : Option Addr) (k8 k9 : Nat) (H : PHeap) (Q : Value -> PHeap -> Prop)
 (h : ∃ (R10 : Rl) (M11 : Mu), R10 [sw none 0 0, iw 1] H /\ ∀ (a12 : Option Addr) (k13 k14 : Nat) (n15 : Int) (H16 : PHeap), R10 [sw a12 k13 k14, iw n15] H16 -> Triple prog 16
 #[.agg #[iw n1, iw n2, iw n3, iw n4, iw n5, iw n6]] H16 fun v17 H18 => ∃ b19, v17 = .bool b19 /\ ((bif b19 then decide (n15 ≤ n1) else false) = true -> Triple prog 47 #[sw a7 k8 k9, iw n15] H18 fun v20 H21 => ∃ b22,
 v20 = .bool b22 /\ ((!b22) = true -> ∀ (k23 : Nat), H21 k23 = none -> EvV prog (Builtin.append_ #[42, 42] 42 #[sw a12 k13 k14, sw (at0 k23) 1 1]) (H21.upd k23 (Obj.cells #[iw n15] 3)) fun v24 H25 => ∃ a26 k27 k28,
 v24 = sw a26 k27 k28 /\ R10 [sw a26 k27 k28, iw (IntKind.i64.wrap (n15 + 1))] H25 /\ Less (M11 [sw a26 k27 k28, iw (IntKind.i64.wrap (n15 + 1))] H25) (M11 [sw a12 k13 k14, iw n15] H16)) /\ ((!b22) = false ->
 R10 [sw a12 k13 k14, iw (IntKind.i64.wrap (n15 + 1))] H21 /\ Less (M11 [sw a12 k13 k14, iw (IntKind.i64.wrap (n15 + 1))] H21) (M11 [sw a12 k13 k14, iw n15] H16))) /\
 ((bif b19 then decide (n15 ≤ n1) else false) = false -> Q (sw a12 k13 k14) H18)) : Triple prog 110 ([.agg #[iw n1, iw n2, iw n3, iw n4, iw n5, iw n6], sw a7 k8 k9]).toArray H Q :=
 Triple.of_vc refTargets.cx (by kernel_rfl) h
theorem rGone.vc (n1 n2 n3 n4 n5 n6 : Int) (a7 : Option Addr) (k8 k9 : Nat) (H : PHeap) (Q : Value -> PHeap -> Prop)
 (h : ∃ (R10 : Rl) (M11 : Mu), R10 [iw 0, iw 0, iw 0] H /\ ∀ (n12 n13 n14 : Int) (H15 : PHeap), R10 [iw n12, iw n13, iw n14] H15 -> (decide (n14 < (k8 : Int)) = true -> Ob (a7 ≠ none /\ 0 ≤ n14 /\ n14 < (k8 : Int)) /\
 Ob (elemA a7 n14 13 ≠ none) /\ ∃ n16, Reads H15 (fldA (elemA a7 n14 13) 0) [iw n16] /\ ((n16 != 14) = true -> R10 [iw n12, iw n13, iw (IntKind.i64.wrap (n14 + 1))] H15 /\
 Less (M11 [iw n12, iw n13, iw (IntKind.i64.wrap (n14 + 1))] H15) (M11 [iw n12, iw n13, iw n14] H15)) /\ ((n16 != 14) = false -> Ob (a7 ≠ none /\ 0 ≤ n14 /\ n14 < (k8 : Int)) /\ Ob (elemA a7 n14 13 ≠ none) /\ ∃ n17,
 Reads H15 (fldA (elemA a7 n14 13) 9) [iw n17] /\ R10 [iw (IntKind.i64.wrap (n12 + 1)), iw (bif n17 != 0 then IntKind.i64.wrap (n13 + 1) else n13), iw (IntKind.i64.wrap (n14 + 1))] H15 /\ Less (M11
 [iw (IntKind.i64.wrap (n12 + 1)), iw (bif n17 != 0 then IntKind.i64.wrap (n13 + 1) else n13), iw (IntKind.i64.wrap (n14 + 1))] H15) (M11 [iw n12, iw n13, iw n14] H15))) /\ (decide (n14 < (k8 : Int)) = false ->
 Triple prog 16 #[.agg #[iw n1, iw n2, iw n3, iw n4, iw n5, iw n6]] H15 fun v18 H19 => ∃ b20, v18 = .bool b20 /\ Q (.bool (bif b20 then bif decide (n12 ≥ n1) then decide (n13 > 0) else false else false)) H19)) :
 Triple prog 112 ([.agg #[iw n1, iw n2, iw n3, iw n4, iw n5, iw n6], sw a7 k8 k9]).toArray H Q := Triple.of_vc rGone.cx (by kernel_rfl) h
theorem sGone.vc (n1 n2 n3 n4 n5 n6 : Int) (a7 : Option Addr) (k8 k9 : Nat) (H : PHeap) (Q : Value -> PHeap -> Prop)
 (h : ∃ H10, Vx.Sub H10 H /\ Triple prog 19 #[.agg #[iw n1, iw n2, iw n3, iw n4, iw n5, iw n6]] H fun v11 H12 => ∃ b13, v11 = .bool b13 /\ Vx.Sub H10 H12 /\ (b13 = true -> ∀ (k14 : Nat), H12 k14 = none ->
 Vx.Sub H10 (H12.upd k14 (Obj.cells #[Value.func (Fn.func 179) #[] #[]] 91)) /\ Triple prog 160 #[sw a7 k8 k9, sw (at0 k14) 1 1] (H12.upd k14 (Obj.cells #[Value.func (Fn.func 179) #[] #[]] 91)) fun v15 H16 => ∃ n17,
 v15 = iw n17 /\ Vx.Sub H10 H16 /\ (decide (n17 ≥ n1) = true -> ∀ (k18 : Nat), H16 k18 = none -> Triple prog 160 #[sw a7 k8 k9, sw (at0 k18) 2 2]
 (H16.upd k18 (Obj.cells #[Value.func (Fn.func 179) #[] #[], Value.func (Fn.func 180) #[] #[]] 91)) fun v19 H20 => ∃ n21, v19 = iw n21 /\ Q (.bool (decide (n21 > 0))) H20) /\
 (decide (n17 ≥ n1) = !true -> Q (.bool false) H16)) /\ (b13 = !true -> Q (.bool false) H12)) : Triple prog 157 ([.agg #[iw n1, iw n2, iw n3, iw n4, iw n5, iw n6], sw a7 k8 k9]).toArray H Q :=
 Triple.of_vc sGone.cx (by kernel_rfl) h
theorem sGone1.vc (n1 n2 n3 n4 : Int) (s5 : ByteArray) (n6 n7 n8 n9 n10 : Int) (a11 : Option Addr) (k12 k13 : Nat) (a14 : Option Addr) (k15 k16 : Nat) (a17 : Option Addr) (k18 k19 : Nat) (H : PHeap) (Q : Value -> PHeap -> Prop)
 (h : Q (.bool (n1 == 14)) H) : Triple prog 179 ([Value.agg #[iw n1, iw n2, iw n3, iw n4, .string s5, iw n6, iw n7, iw n8, iw n9, iw n10, sw a11 k12 k13, sw a14 k15 k16, sw a17 k18 k19]]).toArray H Q :=
 Triple.of_vc sGone1.cx (by kernel_rfl) h
theorem sGone2.vc (n1 n2 n3 n4 : Int) (s5 : ByteArray) (n6 n7 n8 n9 n10 : Int) (a11 : Option Addr) (k12 k13 : Nat) (a14 : Option Addr) (k15 k16 : Nat) (a17 : Option Addr) (k18 k19 : Nat) (H : PHeap) (Q : Value -> PHeap -> Prop)
 (h : Q (.bool (n10 != 0)) H) : Triple prog 180 ([Value.agg #[iw n1, iw n2, iw n3, iw n4, .string s5, iw n6, iw n7, iw n8, iw n9, iw n10, sw a11 k12 k13, sw a14 k15 k16, sw a17 k18 k19]]).toArray H Q :=
 Triple.of_vc sGone2.cx (by kernel_rfl) h
end Go.Vc
namespace Go.Vx
/-- One element more behind a slice that is full: it moves. -/
theorem append_full {P : Program} {t ty e : TypeId} {sz bytes : Nat} (T : ElemT P t e sz bytes) {H : PHeap} {a : Addr} {n : Nat} {k : Nat} (hk : H k = none) {tk : TypeId} {ca : Array Value}
    {α : Type} {E : α → List Value} {l : List α} {x : α} (hE : ∀ x, (E x).length = sz) (hrd : RdL H E sz (some a) n l) (hca : ca.toList = E x) (h1 : ∀ u ∈ E x, u.oneCell' = true)
    (h63 : n + 1 ≤ maxLen) (hbytes : (n + 1) * bytes ≤ 140737488355328) {K : Value → PHeap → Prop}
    (hK : ∀ oa' c' H', OwnL H' e E sz oa' (n + 1) c' (l ++ [x]) → Sub H H' → Off H oa' → K (.slice oa' (n + 1) c') H') :
    EvV P (Builtin.append_ #[t, t] ty #[.slice (some a) n n, .slice (some ⟨k, 0, none⟩) 1 1]) (H.upd k (.cells ca tk)) K := by
  obtain ⟨i, z, hi, hz, hsz, hby, hzs⟩ := T.info
  have hs0 : Sub H (H.upd k (.cells ca tk)) := Sub.upd _ hk
  have hrd' := hrd.mono hs0
  have hlx : (l.flatMap E).length = n * sz := by rw [length_flatMap hE, hrd.len]
  have hnew : ∀ (j : Nat) u, (E x)[j]? = some u → hcell (H.upd k (.cells ca tk)) (Addr.add ⟨k, 0, none⟩ j) = some u := fun j u hj => by
    unfold hcell
    rw [Addr.add_lit]
    simp [upd_eq]
    rw [← hca] at hj
    simpa using hj
  refine ⟨fun w hs => ?_⟩
  obtain ⟨v', w', hrun, ho, hgr⟩ := run_append_arg_grows (P := P) w t ty e i z sz bytes T.under hi hz hsz hby hzs T.pos a n n (l.flatMap E) hlx (fun j u hj => hcell_world hs (hrd'.flat hE j u hj)) ⟨k, 0, none⟩ 1 1 (E x) (by rw [hE]; simp) (fun j u hj => hcell_world hs (hnew j u hj)) (by omega) h63 hbytes
  rcases ho.2 with ⟨_, e0⟩ | ⟨g, cap, cur, rfl, hbg, hgc, hnc, hcm, hcs, htk⟩
  · omega
  · have hH : (H.upd k (.cells ca tk)) g = none := sees_none hs hbg
    refine ⟨_, w', (H.upd k (.cells ca tk)).upd g (.cells cur e (0, 0)), hrun, grown_frame hs hgr (fun _ h => by cases h) hgc hbg rfl, hK _ cap _ ⟨?_, .inr ⟨g, cur, rfl, upd_eq .., hnc, hcm, hcs, ?_⟩⟩ (hs0.trans (Sub.upd _ hH)) (fun z hz => by cases hz; exact hs0.none hH)⟩
    · rw [length_flatMap hE, List.length_append, hrd.len]; rfl
    · rw [htk, List.flatMap_append]; simp
end Go.Vx
namespace Go.Cho
open Go.Vx Go.Vc Go.Proofs Go.Pln Go.Stl Go.Agr
open Go.Hp (rest_ok restL restL_spec restL_len Asc asc_ext has_ok refRest_ok)
open Go.Rnd (takesG insG froms againG OkM AscG)
theorem zI : ∀ i z, Tryz.prog.info? 3 = some i → i.zero = some z → z.cells.toList = iE 0 := fun i z hi hz => by
  have h0 : (Tryz.prog.info? 3).bind (·.zero) = some (.int .i64 0) := by kernel_rfl
  rw [hi] at h0
  simp at h0
  rw [h0] at hz
  cases hz
  rfl
theorem idxFI_ok {F H : PHeap} {oa : Option Addr} {n c : Nat} {l : List Int} {f : Value} {p : Int → Bool} (hF : Sub F H) (hl : RdL H iE 1 oa n l) (hn : n ≤ 100000) (hf : Rnd.Tells F f vI p) :
    Triple Tryz.prog 118 #[.slice oa n c, f] H fun v H' => ∃ i : Int, v = .int .i64 i ∧ Sub H H' ∧ ((i = -1 ∧ l.any p = false) ∨ ∃ (j : Nat) (x : Int), i = j ∧ l[j]? = some x ∧ p x = true ∧ (l.take j).any p = false) := by
  have hll := hl.len
  refine idxFunc.vc oa n c f H _ ⟨fun t H' => match t with | [.int _ i] => 0 ≤ i ∧ i ≤ n ∧ Sub H H' ∧ (l.take i.toNat).any p = false | _ => False, fun t _ => match t with | [.int _ i] => (n - i).toNat | _ => 0, ⟨by omega, by omega, Sub.refl _, by simp⟩, ?_⟩
  rintro i H1 ⟨i0, i1, hs, hno⟩
  obtain ⟨i, rfl⟩ : ∃ j : Nat, i = j := ⟨i.toNat, by omega⟩
  rw [Int.toNat_natCast] at hno
  have hl1 := hl.mono hs
  refine ⟨fun hi => ?_, fun hi => ?_⟩
  · have hi' : i < n := by simpa using hi
    obtain ⟨y, hy, hyr⟩ := hl1.ex (i := (i : Int)) (by omega) (by omega)
    rw [Int.toNat_natCast] at hy
    refine ⟨hl1.ob (by omega) (by omega), y, hyr, hf H1 y _ (hF.trans hs) fun H2 hs2 => ⟨_, rfl, fun he => ⟨_, rfl, hs.trans hs2, .inr ⟨i, _, rfl, hy, he, hno⟩⟩, fun he => ?_⟩⟩
    rw [Rnd.wrapS (by omega) (by omega)]
    refine ⟨⟨by omega, by omega, hs.trans hs2, ?_⟩, ⟨by simp only; omega⟩⟩
    rw [show ((i : Int) + 1).toNat = i + 1 by omega, List.take_add_one, hy, List.any_append, hno]
    simp [he]
  · have : ¬ i < n := by simpa using hi
    rw [List.take_of_length_le (by omega)] at hno
    exact ⟨_, rfl, hs, .inl ⟨rfl, hno⟩⟩
theorem delI_own {F H : PHeap} {oa : Option Addr} {n c : Nat} {l : List Int} {f : Value} {p : Int → Bool} (hF : Sub F H) (ho : Off F oa) (how : OwnL H 3 iE 1 oa n c l) (hn : n ≤ 100000) (hf : Rnd.Tells F f vI p) :
    Triple Tryz.prog 137 #[.slice oa n c, f] H fun v H' => ∃ m, v = .slice oa m c ∧ OwnL H' 3 iE 1 oa m c (l.filter fun x => !p x) ∧ Sub F H' := by
  have hrd := how.rd (E := iE) (sz := 1) (by omega) Rnd.iLen
  have hll := hrd.len
  have hcap := how.le
  refine delI.vc oa n c f H _ ((idxFI_ok hF hrd hn hf).mono ?_)
  rintro _ H1 ⟨i, rfl, hs1, hor⟩
  have how1 : OwnL H1 3 iE 1 oa n c l := Owns.mono how fun a o _ hb => hs1.le _ _ hb
  rcases hor with ⟨rfl, hno⟩ | ⟨j, x, rfl, hx, hp, hno⟩
  · refine ⟨_, rfl, fun _ => ⟨n, rfl, ?_, hF.trans hs1⟩, fun h => by simp at h⟩
    rw [Rnd.filter_none hno]
    exact how1
  · have hjn : j < n := by rw [← hll]; exact (List.getElem?_eq_some_iff.1 hx).1
    refine ⟨_, rfl, fun h => by simp at h, fun _ => ?_⟩
    refine ⟨fun t H' => match t with | [.int _ i, .int _ q] => 0 ≤ i ∧ i < q ∧ q ≤ n ∧ Sub F H' ∧ ∃ l' : List Int, OwnL H' 3 iE 1 oa n c l' ∧ l'.take i.toNat = (l.take q.toNat).filter (fun x => !p x) ∧ l'.drop q.toNat = l.drop q.toNat | _ => False, fun t _ => match t with | [_, .int _ q] => (n - q).toNat | _ => 0, ?_, ?_⟩
    · rw [Rnd.wrapS (by omega) (by omega)]
      refine ⟨by omega, by omega, by omega, hF.trans hs1, l, how1, ?_, rfl⟩
      rw [Int.toNat_natCast, show ((j : Int) + 1).toNat = j + 1 by omega, List.take_add_one, hx, List.filter_append, Rnd.filter_none hno]
      simp [hp]
    · rintro i q H2 ⟨i0, i1, i2, hs2, l', how2, ht, hd⟩
      obtain ⟨i, rfl⟩ : ∃ j : Nat, i = j := ⟨i.toNat, by omega⟩
      obtain ⟨q, rfl⟩ : ∃ j : Nat, q = j := ⟨q.toNat, by omega⟩
      rw [Int.toNat_natCast, Int.toNat_natCast] at ht
      rw [Int.toNat_natCast] at hd
      have hrd2 := how2.rd (E := iE) (sz := 1) (by omega) Rnd.iLen
      have hll2 := hrd2.len
      refine ⟨fun hi => ?_, fun hi => ?_⟩
      · have hq' : q < n := by simpa using hi
        obtain ⟨y, hy, hyr⟩ := hrd2.ex (i := (q : Int)) (by omega) (by omega)
        rw [Int.toNat_natCast] at hy
        have hyl : l[q]? = some y := by
          have h1 : (l'.drop q)[0]? = (l.drop q)[0]? := by rw [hd]
          rw [List.getElem?_drop, List.getElem?_drop, Nat.add_zero, hy] at h1
          exact h1.symm
        have htk : l.take (q + 1) = l.take q ++ [y] := by rw [List.take_add_one, hyl]; rfl
        have hdr : l'.drop (q + 1) = l.drop (q + 1) := by rw [← List.drop_drop, hd, List.drop_drop]
        have ew1 : IntKind.i64.wrap ((q : Int) + 1) = (q : Int) + 1 := Rnd.wrapS (by omega) (by omega)
        have ew2 : IntKind.i64.wrap ((i : Int) + 1) = (i : Int) + 1 := Rnd.wrapS (by omega) (by omega)
        rw [ew1, ew2]
        refine ⟨hrd2.ob (by omega) (by omega), y, hyr, hf H2 y _ hs2 fun H3 hs3 => ⟨_, rfl, fun he => ?_, fun he => ?_⟩⟩
        · have how3 : OwnL H3 3 iE 1 oa n c l' := Owns.mono how2 fun a o _ hb => hs3.le _ _ hb
          obtain ⟨H4, hw, how4, hf4⟩ := Owns.set Rnd.iLen how3 (by omega) (i := (i : Int)) (by omega) (by omega) y
          rw [Int.toNat_natCast] at how4
          refine ⟨hrd2.ob (by omega) (by omega), H4, hw, ⟨by omega, by omega, by omega, hf4.sub (hs2.trans hs3) ho, _, how4, ?_, ?_⟩, ⟨by simp only; omega⟩⟩
          · rw [show ((i : Int) + 1).toNat = i + 1 by omega, show ((q : Int) + 1).toNat = q + 1 by omega, htk, List.filter_append, ← ht, List.take_add_one, List.getElem?_set_self (by omega), List.take_set_of_le (Nat.le_refl _)]
            have : p y = false := by simpa using he
            simp [this]
          · rw [show ((q : Int) + 1).toNat = q + 1 by omega, ← hdr, List.drop_set_of_lt (by omega)]
        · refine ⟨⟨by omega, by omega, by omega, hs2.trans hs3, l', Owns.mono how2 fun a o _ hb => hs3.le _ _ hb, ?_, ?_⟩, ⟨by simp only; omega⟩⟩
          · rw [Int.toNat_natCast, show ((q : Int) + 1).toNat = q + 1 by omega, htk, List.filter_append, ← ht]
            have : p y = true := by simpa using he
            simp [this]
          · rw [show ((q : Int) + 1).toNat = q + 1 by omega]; exact hdr
      · have hqn : q = n := by
          have : ¬ q < n := by simpa using hi
          omega
        subst hqn
        have hone : oa ≠ none := hrd2.ne (i := 0) (by omega) (by omega)
        obtain ⟨H3, hw, how3, hf3⟩ := how2.put (p := i) (ys := (List.replicate (q - i) (0 : Int)).flatMap iE) (by rw [length_flatMap Rnd.iLen, List.length_replicate]; omega) hone
        refine ⟨⟨by omega, by omega, by omega⟩, ?_⟩
        simp only [Int.toNat_natCast, Int.toNat_zero, Nat.sub_zero, slA_zero]
        rw [slA_pos (show (i : Int) ≠ c by omega)]
        refine clear_rw Rnd.tI (E := iE) (Z := (0 : Int)) zI (Rnd.iOne 0) (fun e => absurd e (hrd2.elem_ne (by omega) (by omega))) (.inr hw) ?_
        refine ⟨⟨by omega, by omega, by omega⟩, i, rfl, ?_, hf3.sub hs2 ho⟩
        have h5 := how3.cut (m := i) (by omega)
        rw [List.append_assoc, List.take_append_of_le_length (by rw [List.length_take, length_flatMap Rnd.iLen, hll2]; omega), List.take_take, Nat.min_self] at h5
        have e1 : (l'.flatMap iE).take (i * 1) = (l'.take i).flatMap iE := by
          conv => lhs; rw [← List.take_append_drop i l', List.flatMap_append]
          rw [List.take_left' (by rw [length_flatMap Rnd.iLen, List.length_take]; omega)]
        rw [e1, ht, List.take_of_length_le (by omega)] at h5
        exact h5
def isP (p : Plan) (i : Int) : Bool := p.ok && decide (1 ≤ i ∧ i ≤ p.n)
theorem is_ok (p : Plan) (i : Int) : Pure Tryz.prog 95 #[p.v, vI i] (.bool (isP p i)) := fun H => by
  refine planIs.vc p.n p.t p.l p.w p.s p.r i H _ ((right_ok p).use ⟨_, rfl, fun e => (in_ok i 1 p.n).use ⟨_, rfl, ?_, rfl⟩, fun e => ⟨?_, rfl⟩⟩)
  · unfold isP; rw [e]; rfl
  · unfold isP; rw [show p.ok = false by simpa using e]; rfl
theorem refIs_ok (p : Plan) (i : Int) : Pure Tryz.prog 145 #[p.v, vI i] (.bool (decide (1 ≤ i ∧ i ≤ p.n))) := fun H => by
  refine refPIs.vc p.n p.t p.l p.w p.s p.r i H _ ⟨?_, rfl⟩
  congr 1
  by_cases h1 : i ≥ 1 <;> by_cases h2 : i ≤ p.n <;> simp [h1, h2] <;> omega
theorem need_ok (H : PHeap) (p : Plan) : Triple Tryz.prog 98 #[p.v] H fun v H' => v = vI (if p.ok then p.t + p.l else 0) ∧ Sub H H' := by
  refine planNeed.vc p.n p.t p.l p.w p.s p.r H _ fun k7 hk7 => ?_
  have hs := Sub.upd (.cells #[vI p.n, vI p.t, vI p.l, vI p.w, vI p.s, vI p.r] 23 (0, 0)) hk7
  have hb := Bx.new H k7 23 [vI p.n, vI p.t, vI p.l, vI p.w, vI p.s, vI p.r]
  refine ⟨p.n, p.t, p.l, p.w, p.s, p.r, hb.reads, planOfI.vc p.n p.t p.l p.w p.s p.r _ _ _ ((right_ok p).use ⟨_, rfl, fun e => ⟨_, rfl, ?_, hs⟩, fun e => CallY.fn (by kernel_rfl) (planNeed1.vc (at0 k7) _ _ ⟨obP k7, p.t, hb.fld rfl, obP k7, p.l, hb.fld rfl, _, rfl, _, rfl, ?_, hs⟩)⟩)⟩
  · have : p.ok = false := by simpa using e
    rw [this]; rfl
  · have h : p.ok = true := by simpa using e
    have hp := Plan.ok_iff.1 h
    have := hp.t1; have := hp.t2; have := hp.l1; have := hp.l2
    rw [h, if_pos rfl, wrap64 (n := p.t + p.l) (by omega) (by omega)]
/-- The holders that are custodians, but one. -/
def thoseL (p : Plan) (h : List Int) (i : Int) : List Int := (ids p).filter fun j => decide (j ∈ h) && decide (j ≠ i)
def helpL (p : Plan) (h : List Int) (i : Int) : Option (List Int) := if isP p i && decide (p.t + p.l ≤ (thoseL p h i).length) then some ((thoseL p h i).take (p.t + p.l).toNat) else none
def targL (p : Plan) (h : List Int) : List Int := (ids p).filter fun j => !decide (j ∈ h)
theorem idsN_asc : ∀ n, Asc (idsN n)
  | 0 => List.Pairwise.nil
  | n + 1 => by
    rw [idsN_succ]
    refine List.pairwise_append.2 ⟨idsN_asc n, by simp, fun a ha b hb => ?_⟩
    obtain ⟨j, hj, rfl⟩ := List.mem_map.1 ha
    rw [List.mem_range] at hj
    simp at hb
    omega
theorem ids_asc (p : Plan) : Asc (ids p) := idsN_asc _
theorem mem_ids {p : Plan} {i : Int} : i ∈ ids p ↔ 1 ≤ i ∧ i ≤ p.n := by
  constructor
  · intro h
    have := ids_mem h
    omega
  · intro ⟨h1, h2⟩
    exact List.mem_map.2 ⟨i.toNat - 1, by rw [List.mem_range]; omega, by omega⟩
theorem asc_filter {l : List Int} (h : Asc l) (q : Int → Bool) : Asc (l.filter q) := List.Pairwise.filter _ h
theorem those_eq {p : Plan} (hp : p.ok = true) (h : List Int) (i : Int) : (restL h [i]).filter (fun j => !(!isP p j)) = thoseL p h i := by
  refine asc_ext (asc_filter (restL_spec h [i]).1 _) (asc_filter (ids_asc p) _) fun x => ?_
  unfold thoseL isP
  rw [List.mem_filter, List.mem_filter, (restL_spec h [i]).2, mem_ids]
  simp [hp]
  constructor
  · rintro ⟨⟨a, b⟩, c⟩; exact ⟨c, a, b⟩
  · rintro ⟨c, a, b⟩; exact ⟨⟨a, b⟩, c⟩
theorem ids_len' {p : Plan} (hp : p.ok = true) : (ids p).length ≤ 256 := by rw [ids_len]; exact pn_le hp
theorem those_len (p : Plan) (h : List Int) (i : Int) : (thoseL p h i).length ≤ (ids p).length := List.length_filter_le ..
theorem targ_len (p : Plan) (h : List Int) : (targL p h).length ≤ (ids p).length := List.length_filter_le ..
/-- Who helps: a slice of its own, that is full. -/
abbrev GivesH (r : Option (List Int)) (H : PHeap) (v : Value) (H' : PHeap) : Prop := ∃ b m ok, v = .tuple #[.slice b m m, .bool ok] ∧ ok = r.isSome ∧ RdL H' iE 1 b m (r.getD []) ∧ Sub H H' ∧ Off H b ∧ (ok = true → b ≠ none)
theorem helpers_ok {H : PHeap} {p : Plan} {oa : Option Addr} {n c : Nat} {h : List Int} {i : Int} (hp : p.ok = true) (hl : RdL H iE 1 oa n h) (hn : n ≤ 100000) :
    Triple Tryz.prog 58 #[p.v, .slice oa n c, vI i] H (GivesH (helpL p h i) H) := by
  have pok := Plan.ok_iff.1 hp
  refine cHelpers.vc p.n p.t p.l p.w p.s p.r oa n c i H _ ((is_ok p i).use ⟨_, rfl, fun e => ?_, fun e => ⟨H, Sub.refl _, ?_⟩⟩)
  · have e' : isP p i = false := by simpa using e
    have : helpL p h i = none := by unfold helpL; rw [e']; rfl
    rw [this]
    exact ⟨none, 0, false, rfl, rfl, RdL.nil _ _ _, Sub.refl _, Off.none _, fun e => by cases e⟩
  · have e' : isP p i = true := by simpa using e
    refine cThose.vc p.n p.t p.l p.w p.s p.r oa n c i H _ fun k11 hk11 k12 hk12 => ?_
    have s11 := Sub.upd (.cells #[vI p.n, vI p.t, vI p.l, vI p.w, vI p.s, vI p.r] 23 (0, 0)) hk11
    have b11 := Bx.new H k11 23 [vI p.n, vI p.t, vI p.l, vI p.w, vI p.s, vI p.r]
    have s12 := Sub.upd (.cells #[vI i] 3 (0, 0)) hk12
    have b12 := Bx.new (H.upd k11 (.cells #[vI p.n, vI p.t, vI p.l, vI p.w, vI p.s, vI p.r] 23 (0, 0))) k12 3 (([i] : List Int).flatMap iE)
    have b11' := b11.sub s12
    refine (rest_ok (w := [i]) ((hl.mono s11).mono s12) (Bx.rd (E := iE) (l := [i]) Rnd.iLen b12) hn (by simp)).mono ?_
    rintro _ H14 ⟨a15, k16, k17, rfl, o15, s14, f15⟩
    have hF := f15.sub (Sub.refl _)
    have hr := o15.rd (E := iE) (sz := 1) (by omega) Rnd.iLen
    have hk := hr.len
    have hle := restL_len h [i]
    have hhl := hl.len
    refine ⟨a15, k16, k17, rfl, (delI_own (p := fun j => !isP p j) s14 f15 o15 (by omega) fun G x Q hs hQ => CallY.fn (by kernel_rfl) (cThose1.vc x (at0 k11) _ _ ⟨_, _, _, _, _, _, (b11'.sub hs).reads, (is_ok p x).use ⟨_, rfl, hQ _ (Sub.refl _)⟩⟩)).mono ?_⟩
    rintro _ H19 ⟨m, rfl, o19, s19⟩
    have hss := (s11.trans s12).trans s19
    rw [those_eq hp] at o19
    have r19 := o19.rd (E := iE) (sz := 1) (by omega) Rnd.iLen
    have hml := r19.len
    refine ⟨_, _, _, rfl, _, _, _, rfl, hss, (need_ok _ p).mono ?_⟩
    rintro _ H21 ⟨rfl, s21⟩
    rw [hp, if_pos rfl]
    have t1 := pok.t1; have l1 := pok.l1; have t2 := pok.t2; have l2 := pok.l2
    have hcap := o19.le
    refine ⟨_, rfl, cFirst.vc a15 m k17 (p.t + p.l) _ _ ⟨fun e1 => ?_, fun e1 => ⟨⟨by omega, by omega, by omega, ?_⟩, ?_⟩⟩⟩
    · have hlt : ¬ p.t + p.l ≤ ((thoseL p h i).length : Int) := by
        by_cases h1 : p.t + p.l < 1
        · omega
        · simp [h1] at e1; omega
      have : helpL p h i = none := by unfold helpL; rw [e', decide_eq_false hlt]; rfl
      rw [this]
      exact ⟨_, _, _, _, rfl, none, 0, false, rfl, rfl, RdL.nil _ _ _, hss.trans s21, Off.none _, fun e => by cases e⟩
    · by_cases h1 : p.t + p.l < 1
      · omega
      · simp [h1] at e1; omega
    · have hge : p.t + p.l ≤ ((thoseL p h i).length : Int) := by
        by_cases h1 : p.t + p.l < 1
        · omega
        · simp [h1] at e1; omega
      have : helpL p h i = some ((thoseL p h i).take (p.t + p.l).toNat) := by unfold helpL; rw [e', decide_eq_true hge]; rfl
      rw [this]
      have r21 := (r19.mono s21).take (i := (p.t + p.l).toNat) (by omega)
      rw [slA_zero]
      refine ⟨_, _, _, _, rfl, a15, (p.t + p.l).toNat - Int.toNat 0, true, rfl, rfl, ?_, hss.trans s21, f15.sub (s11.trans s12), fun _ => ?_⟩
      · simpa using r21
      · exact r21.ne (i := 0) (by omega) (by omega)
theorem targets_ok {H : PHeap} {p : Plan} {oa : Option Addr} {n c : Nat} {h : List Int} (hp : p.ok = true) (hl : RdL H iE 1 oa n h) (hn : n ≤ 100000) :
    Triple Tryz.prog 156 #[p.v, .slice oa n c] H (GivesI (targL p h) H) := by
  refine cTargets.vc p.n p.t p.l p.w p.s p.r oa n c H _ ((planAll_ok hp).mono ?_)
  rintro _ H11 ⟨a, m, q, rfl, o, hs, f⟩
  have hr := o.rd (E := iE) (sz := 1) (by omega) Rnd.iLen
  have hml := hr.len
  have := ids_len' hp
  refine ⟨a, m, q, rfl, (rest_ok (l := ids p) (w := h) hr (hl.mono hs) (by omega) hn).mono ?_⟩
  rintro _ H16 ⟨b, k, d, rfl, o2, s2, f2⟩
  have e : restL (ids p) h = targL p h := asc_ext (restL_spec _ _).1 (asc_filter (ids_asc p) _) fun x => by
    rw [(restL_spec _ _).2]; unfold targL; rw [List.mem_filter]; simp
  rw [e] at o2
  exact ⟨b, k, d, rfl, b, k, d, rfl, o2, hs.trans s2, f2.sub hs⟩
end Go.Cho
