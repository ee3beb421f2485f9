/- Pages, wherever they lie: the contract of a turn, whoever is suspect; whether enough are sound. · What is to be shown of each function, in its normal form.  · What a chore asks of those who choose: who helps, who is helped, whether a blob is gone. · The document's choices, and whether a blob is gone. · A chore in plain words: its state, its steps, and what is so of them. No program is in sight. · A chore's state stays as it ought to be. -/
import Derived.Test.YtajkbeifgghpmaaGreatProg
import Derived.Test.YtajkbeifgghpmaaGreatCEk08
set_option linter.unusedVariables false
set_option maxRecDepth 100000
namespace Go.Vx
/-- A place in a variable. -/
def pt (k : Nat) (PA : List Value) : Option Addr := fldA (at0 k) PA.length
theorem obA (k : Nat) (PA : List Value) : Ob (pt k PA ≠ none) := ⟨by simp [pt, at0, fldA]⟩
theorem fld_fld (k a b : Nat) : fldA (fldA (at0 k) a) b = fldA (at0 k) (a + b) := by
  simp [fldA, at0, Addr.add]
  by_cases hb : b = 0 <;> by_cases ha : a = 0 <;> simp [ha, hb]
theorem Bx.fldA {H : PHeap} {k : Nat} {t : TypeId} {PA l PB : List Value} (h : Bx H k t (PA ++ l ++ PB)) {i : Nat} {v : Value} (hv : l[i]? = some v) : Reads H (Vx.fldA (pt k PA) i) [v] := by
  unfold pt
  rw [fld_fld]
  refine h.fld ?_
  have hi : i < l.length := (List.getElem?_eq_some_iff.1 hv).1
  rw [List.append_assoc, List.getElem?_append_right (by omega), List.getElem?_append_left (by omega), show PA.length + i - PA.length = i by omega]
  exact hv
theorem set_mid {PA l PB : List Value} {i : Nat} {x : Value} (hi : i < l.length) : (PA ++ l ++ PB).set (PA.length + i) x = PA ++ l.set i x ++ PB := by
  rw [List.append_assoc, List.set_append_right _ _ (by omega), List.set_append_left _ _ (by omega), ← List.append_assoc, show PA.length + i - PA.length = i by omega]
theorem Bx.putA {H : PHeap} {k : Nat} {t : TypeId} {PA l PB : List Value} (h : Bx H k t (PA ++ l ++ PB)) {i : Nat} {x : Value} (hi : i < l.length) : Writes H (H.upd k (.cells (PA ++ l.set i x ++ PB).toArray t (0, 0))) (Vx.fldA (pt k PA) i) [x] := by
  unfold pt
  rw [fld_fld, ← set_mid hi]
  exact h.put (by simp; omega)
end Go.Vx
namespace Go.Page
open Go.Vx Go.Vc Go.Proofs Go.Txt Go.Lab Go.Hp Go.Pln
abbrev from_ (m : Msg) : Int := m.2.1
/-- Who was suspect, behind pages. -/
def susStep (S : List Int) (m : Msg) : List Int := if stateL m == 2 then restL (S ++ [from_ m]) [] else S
def susL (S : List Int) (L : List Msg) : List Int := L.foldl susStep S
theorem susL_snoc (S : List Int) (L : List Msg) (m : Msg) : susL S (L ++ [m]) = susStep (susL S L) m := by simp [susL]
theorem susStep_len (S : List Int) (m : Msg) : (susStep S m).length ≤ S.length + 1 := by
  unfold susStep
  split
  · have := restL_len (S ++ [from_ m]) []
    simpa using this
  · omega
theorem susL_len (S : List Int) (L : List Msg) : (susL S L).length ≤ S.length + L.length := by
  induction L generalizing S with
  | nil => simp [susL]
  | cons m ms ih =>
    have h1 := ih (susStep S m)
    have h2 := susStep_len S m
    have e : susL S (m :: ms) = susL (susStep S m) ms := rfl
    rw [e, List.length_cons]; omega
variable {tp : TypeId} {PA PB : List Value}
/-- The block k holds pages, apart from F, which holds what it reads; who was suspect lies in an array of its own. -/
structure PgT (tp : TypeId) (PA PB : List Value) (F H : PHeap) (k : Nat) (names : List ByteArray) (after : ByteArray) (sus : List Int) : Prop where
  sub : Sub F H
  off : F k = none
  row : ∃ oa n c ob m d, Bx H k tp (PA ++ [.slice oa n c, .string after, .slice ob m d] ++ PB) ∧ RdL F sE 1 oa n names ∧ OwnL H 3 Hp.iE 1 ob m d sus ∧ Off F ob ∧ ∀ a, ob = some a → a.block ≠ k
theorem PgT.mono {F H H' : PHeap} {k : Nat} {names : List ByteArray} {after : ByteArray} {sus : List Int} (h : PgT tp PA PB F H k names after sus) (hs : Sub H H') : PgT tp PA PB F H' k names after sus := by
  obtain ⟨oa, n, c, ob, m, d, h1, h2, h3, h4, h5⟩ := h.row
  exact ⟨h.sub.trans hs, h.off, oa, n, c, ob, m, d, h1.sub hs, h2, Owns.mono h3 fun a o _ hb => hs.le _ _ hb, h4, h5⟩
theorem after_okT {F H : PHeap} {k : Nat} {names : List ByteArray} {after : ByteArray} {sus : List Int} (h : PgT tp PA PB F H k names after sus) :
    Triple Tryz.prog 55 #[.pointer (pt k PA)] H fun v H' => v = .string after ∧ H' = H := by
  obtain ⟨oa, n, c, ob, m, d, h1, h2, _⟩ := h.row
  exact pAfter.vc (pt k PA) H _ ⟨fun e => by simp [pt, at0, fldA] at e, fun _ => ⟨obA k PA, obA k PA, after, h1.fldA rfl, rfl, rfl⟩⟩
theorem sus_okT {F H : PHeap} {k : Nat} {names : List ByteArray} {after : ByteArray} {sus : List Int} (h : PgT tp PA PB F H k names after sus) (hn : sus.length ≤ 100000) :
    Triple Tryz.prog 90 #[.pointer (pt k PA)] H fun v H' => ∃ b n c, v = .slice b n c ∧ RdL H' Hp.iE 1 b n sus ∧ Sub H H' := by
  obtain ⟨oa, n, c, ob, m, d, h1, h2, h3, _⟩ := h.row
  have hr := h3.rd (E := Hp.iE) (sz := 1) (by omega) Hp.iLen
  have hl := hr.len
  refine pSus.vc (pt k PA) H _ ⟨fun e => by simp [pt, at0, fldA] at e, fun _ => ⟨obA k PA, obA k PA, ob, m, d, h1.fldA rfl, (Rnd.cloneI_ok hr (by omega)).mono ?_⟩⟩
  rintro _ H' ⟨b, q, rfl, g1, g2, _⟩
  exact ⟨b, m, q, rfl, b, m, q, rfl, g1.rd (E := Hp.iE) (sz := 1) (by omega) Hp.iLen, g2⟩
/-- Behind the first pages, of a turn's first loop. -/
structure T1 (tp : TypeId) (PA PB : List Value) (G H' : PHeap) (k k5 k6 : Nat) (nm : Value) (after : ByteArray) (S : List Int) (lim : Bool × ByteArray) : Prop where
  sub : Sub G H'
  row : ∃ ob m d, Bx H' k tp (PA ++ [nm, .string after, .slice ob m d] ++ PB) ∧ OwnL H' 3 Hp.iE 1 ob m d S ∧ Off G ob ∧ ∀ a, ob = some a → a.block ≠ k ∧ a.block ≠ k5 ∧ a.block ≠ k6
  b6 : Bx H' k6 4 [.bool lim.1]
  b5 : Bx H' k5 9 [.string lim.2]
theorem T1.lim {G H H' : PHeap} {k k5 k6 : Nat} {nm : Value} {after : ByteArray} {S : List Int} {lim lim' : Bool × ByteArray} (h : T1 tp PA PB G H k k5 k6 nm after S lim) (f6 : Bx H' k6 4 [.bool lim'.1]) (f5 : Bx H' k5 9 [.string lim'.2])
    (hk : ∀ q o, q ≠ k5 → q ≠ k6 → H q = some o → H' q = some o) (h5 : G k5 = none) (h6 : G k6 = none) (n5 : k5 ≠ k) (n6 : k6 ≠ k) : T1 tp PA PB G H' k k5 k6 nm after S lim' := by
  obtain ⟨ob, m, d, g1, g2, g3, g4⟩ := h.row
  refine ⟨⟨fun q o hq => hk q o (fun e => by rw [e, h5] at hq; cases hq) (fun e => by rw [e, h6] at hq; cases hq) (h.sub.le _ _ hq)⟩, ⟨ob, m, d, hk k _ n5.symm n6.symm g1, Owns.mono g2 fun a o ha hb => hk _ _ (g4 a ha).2.1 (g4 a ha).2.2 hb, g3, g4⟩, f6, f5⟩
theorem turnT_ok {F H : PHeap} {k : Nat} {names : List ByteArray} {after : ByteArray} {sus : List Int} {oa : Option Addr} {n c : Nat} {L : List Msg} (h : PgT tp PA PB F H k names after sus) (hl : RdL F mE 13 oa n L) (hok : ∀ m ∈ L, OkP F m)
    (hn : n ≤ 100) (hsum : names.length + sumN (L.filter fun m => kind_ m == 20) ≤ 90000) (hsus : sus.length ≤ 90000) :
    Triple Tryz.prog 88 #[.pointer (pt k PA), .slice oa n c] H fun v H' => v = .bool (limL (L.filter fun m => kind_ m == 20)).1 ∧
      ∃ F', Sub F F' ∧ PgT tp PA PB F' H' k (namesL (limL (L.filter fun m => kind_ m == 20)) names (L.filter fun m => kind_ m == 20)) (if (limL (L.filter fun m => kind_ m == 20)).1 then after else (limL (L.filter fun m => kind_ m == 20)).2) (susL sus (L.filter fun m => kind_ m == 20)) := by
  refine pTurn.vc (pt k PA) oa n c H _ ⟨fun e => by simp [pt, at0, fldA] at e, fun _ k5 hk5 k6 hk6 => ?_⟩
  obtain ⟨oan, nn, cn, ob, mm, dd, hb, hnm, hown, hob, hobk⟩ := h.row
  have hk5k : k5 ≠ k := fun e => by unfold Bx at hb; rw [e, hb] at hk5; cases hk5
  have hob5 : ∀ a, ob = some a → a.block ≠ k5 := fun a ha e => by
    subst ha
    obtain ⟨o, ho⟩ := hown.blk
    rw [e, hk5] at ho; cases ho
  have s5 := Sub.upd (.cells #[.string noS] 9 (0, 0)) hk5
  have c5 : Bx (H.upd k5 (.cells #[.string noS] 9 (0, 0))) k5 9 [.string noS] := Bx.new H k5 9 [.string noS]
  have hb1 := hb.sub s5
  have hown1 := Owns.mono hown fun a o _ hb => s5.le _ _ hb
  generalize H.upd k5 (.cells #[.string noS] 9) = H1 at *
  have hk6k : k6 ≠ k := fun e => by unfold Bx at hb1; rw [e, hb1] at hk6; cases hk6
  have hk56 : k5 ≠ k6 := fun e => by have := c5; unfold Bx at this; rw [e, hk6] at this; cases this
  have hob6 : ∀ a, ob = some a → a.block ≠ k6 := fun a ha e => by
    subst ha
    obtain ⟨o, ho⟩ := hown1.blk
    rw [e, hk6] at ho; cases ho
  have s6 := Sub.upd (.cells #[.bool false] 4 (0, 0)) hk6
  have c6 : Bx (H1.upd k6 (.cells #[.bool false] 4 (0, 0))) k6 4 [.bool false] := Bx.new H1 k6 4 [.bool false]
  have c5' := c5.sub s6
  have hb2 := hb1.sub s6
  have s12 := s5.trans s6
  generalize H1.upd k6 (.cells #[.bool false] 4) = H2 at *
  have c6' := c6.upd_ne (.cells [Value.string noS].toArray 9 (0, 0)) hk56.symm
  refine ⟨_, c5'.writes [.string noS] rfl, _, c6'.writes [.bool true] rfl, ?_⟩
  have g5 : Bx ((H2.upd k5 (.cells [Value.string noS].toArray 9 (0, 0))).upd k6 (.cells [Value.bool true].toArray 4 (0, 0))) k5 9 [.string noS] := (Bx.new H2 k5 9 [.string noS]).upd_ne _ hk56
  have g6 := Bx.new (H2.upd k5 (.cells [Value.string noS].toArray 9 (0, 0))) k6 4 [.bool true]
  have s8 : Sub H ((H2.upd k5 (.cells [Value.string noS].toArray 9 (0, 0))).upd k6 (.cells [Value.bool true].toArray 4 (0, 0))) := Bx.sub_of (Bx.sub_of s12 hk5) (s5.none hk6)
  generalize (H2.upd k5 (.cells [Value.string noS].toArray 9 (0, 0))).upd k6 (.cells [Value.bool true].toArray 4 (0, 0)) = H8 at *
  have hbk := hb.sub s8
  have hown8 := Owns.mono hown fun a o _ hb => s8.le _ _ hb
  refine (listed_ok (hl.mono (h.sub.trans s8)) (by omega)).mono ?_
  rintro _ H10 ⟨a11, k12, k13, rfl, hL10, s10, off11⟩
  generalize hLdef : (L.filter fun m => kind_ m == 20) = Lf at *
  have hokL : ∀ m ∈ Lf, OkP F m := fun m hm => by
    rw [← hLdef] at hm
    exact hok m (List.mem_filter.1 hm).1
  have hLl := hL10.len
  have hLn : k12 ≤ n := by
    have h1 := List.length_filter_le (fun m => kind_ m == 20) L
    rw [hLdef, hLl, hl.len] at h1; exact h1
  -- what stays
  have hobm : ∀ q, q ∈ ob.toList.map (·.block) → ∃ a, ob = some a ∧ q = a.block := fun q hq => by
    obtain ⟨a, ha, rfl⟩ := List.mem_map.1 hq
    exact ⟨a, by simpa using ha, rfl⟩
  have hmob : ∀ a, ob = some a → a.block ∈ ob.toList.map (·.block) := fun a ha => List.mem_map.2 ⟨a, by simp [ha], rfl⟩
  have hFks : ∀ q ∈ k :: k5 :: k6 :: ob.toList.map (·.block), F q = none := by
    intro q hq
    simp only [List.mem_cons] at hq
    rcases hq with rfl | rfl | rfl | hq
    · exact h.off
    · exact h.sub.none hk5
    · exact h.sub.none (s5.none hk6)
    · obtain ⟨a, ha, rfl⟩ := hobm q hq
      exact hob a ha
  have hF10 : Sub F (rest H10 (k :: k5 :: k6 :: ob.toList.map (·.block))) := rest_le (h.sub.trans (s8.trans s10)) hFks
  have hLF : RdL (rest H10 (k :: k5 :: k6 :: ob.toList.map (·.block))) mE 13 a11 k12 Lf := hL10.rest fun a ha hq => by
    simp only [List.mem_cons] at hq
    rcases hq with e | e | e | e
    · exact off11.ne hbk a ha e
    · exact off11.ne g5 a ha e
    · exact off11.ne g6 a ha e
    · obtain ⟨b, hb', e'⟩ := hobm _ e
      subst hb'
      obtain ⟨o, ho⟩ := hown8.blk
      exact off11.ne ho a ha e'
  have hrk : rest H10 (k :: k5 :: k6 :: ob.toList.map (·.block)) k = none := rest_none (by simp)
  have hr5 : rest H10 (k :: k5 :: k6 :: ob.toList.map (·.block)) k5 = none := rest_none (by simp)
  have hr6 : rest H10 (k :: k5 :: k6 :: ob.toList.map (·.block)) k6 = none := rest_none (by simp)
  have hrob : Off (rest H10 (k :: k5 :: k6 :: ob.toList.map (·.block))) ob := fun a ha => rest_none (by simp only [List.mem_cons]; exact .inr (.inr (.inr (hmob a ha))))
  have hrs := rest_sub H10 (k :: k5 :: k6 :: ob.toList.map (·.block))
  have hT0 : T1 tp PA PB (rest H10 (k :: k5 :: k6 :: ob.toList.map (·.block))) H10 k k5 k6 (.slice oan nn cn) after sus (true, noS) :=
    ⟨hrs, ⟨ob, mm, dd, hbk.sub s10, Owns.mono hown8 fun a o _ hb => s10.le _ _ hb, hrob, fun a ha => ⟨hobk a ha, hob5 a ha, hob6 a ha⟩⟩, g6.sub s10, g5.sub s10⟩
  generalize rest H10 (k :: k5 :: k6 :: ob.toList.map (·.block)) = G at *
  refine ⟨a11, k12, k13, rfl, fun t H' => match t with | [.int _ i] => 0 ≤ i ∧ i ≤ k12 ∧ T1 tp PA PB G H' k k5 k6 (.slice oan nn cn) after (susL sus (Lf.take i.toNat)) (limL (Lf.take i.toNat)) | _ => False,
    fun t _ => match t with | [.int _ i] => (k12 - i).toNat | _ => 0, ⟨by omega, by omega, hT0⟩, ?_⟩
  rintro i H17 ⟨i0, i1, hT⟩
  obtain ⟨i, rfl⟩ : ∃ j : Nat, i = j := ⟨i.toNat, by omega⟩
  rw [Int.toNat_natCast] at hT
  have sG := hT.sub
  have hL17 := hLF.mono sG
  refine ⟨fun hi => ?_, fun hi => ?_⟩
  · have hi' : i < k12 := by simpa using hi
    obtain ⟨x, hx, hxr⟩ := hL17.ex (i := (i : Int)) (by omega) (by omega)
    rw [Int.toNat_natCast] at hx
    have okx := hokL x (List.mem_of_getElem? hx)
    have okG := okx.mono hF10
    have htk : Lf.take (i + 1) = Lf.take i ++ [x] := by rw [List.take_add_one, hx]; rfl
    have hslen := susL_len sus (Lf.take i)
    rw [List.length_take] at hslen
    have hsus1 : susL sus (Lf.take (i + 1)) = susStep (susL sus (Lf.take i)) x := by rw [htk, susL_snoc]
    have st := state_ok (okG.mono sG)
    obtain ⟨y1, y2, y3, y4, y5, y6, y7, y8, y9, y10, ⟨ya, yb, yc, yl⟩, ⟨za, zb, zc, zl⟩, ⟨wa, wb, wc, wl⟩⟩ := x
    refine ⟨hL17.ob (by omega) (by omega), y1, y2, y3, y4, y5, y6, y7, y8, y9, y10, ya, yb, yc, za, zb, zc, wa, wb, wc, hxr, st.mono ?_⟩
    rintro _ H38 ⟨rfl, hH⟩
    obtain rfl := hH.symm
    refine ⟨_, rfl, ?_⟩
    apply both (C := fun H' => T1 tp PA PB G H' k k5 k6 (.slice oan nn cn) after (susL sus (Lf.take (i + 1))) (limL (Lf.take i)))
    · intro key
      refine ⟨fun e => ?_, fun e => ?_⟩
      · have e' : stateL (y1, y2, y3, y4, y5, y6, y7, y8, y9, y10, ⟨ya, yb, yc, yl⟩, ⟨za, zb, zc, zl⟩, ⟨wa, wb, wc, wl⟩) == 2 := e
        obtain ⟨ob, mm, dd, hb1, hown1, hoff1, hne1⟩ := hT.row
        refine ⟨H17, Sub.refl _, obA k PA, obA k PA, ob, mm, dd, hb1.fldA rfl, fun k44 hk44 => ⟨Sub.upd _ hk44, ?_⟩⟩
        have hmm := (hown1.rd (E := Hp.iE) (sz := 1) (by omega) Hp.iLen).len
        refine append_one Rnd.tI (E := Hp.iE) (x := y2) hk44 Hp.iLen hown1 rfl (Hp.iOne _) (by simp [maxLen]; omega) (by omega) ?_
        intro a47 c47 H46 how hf hfr _
        have sG46 : Sub G H46 := hf.sub sG hoff1
        have bk46 := hf.bx hb1 fun a ha => (hne1 a ha).1
        have b546 := hf.bx hT.b5 fun a ha => (hne1 a ha).2.1
        have b646 := hf.bx hT.b6 fun a ha => (hne1 a ha).2.2
        refine ⟨a47, mm + 1, c47, rfl, (rest_ok (l := susL sus (Lf.take i) ++ [y2]) (w := []) (how.rd (E := Hp.iE) (sz := 1) (by omega) Hp.iLen) (RdL.nil _ _ _) (by omega) (by omega)).mono ?_⟩
        rintro _ H51 ⟨b, kb, qb, rfl, ownb, s51, offb⟩
        have bk51 := bk46.sub s51
        refine ⟨b, kb, qb, rfl, obA k PA, obA k PA, _, bk51.putA (i := 2) (x := .slice b kb qb) (by simp), ?_⟩
        have hneb : ∀ a, b = some a → a.block ≠ k ∧ a.block ≠ k5 ∧ a.block ≠ k6 := fun a ha => ⟨offb.ne bk46 a ha, offb.ne b546 a ha, offb.ne b646 a ha⟩
        have hT2 : T1 tp PA PB G (H51.upd k (.cells (PA ++ [Value.slice oan nn cn, .string after, .slice ob mm dd].set 2 (.slice b kb qb) ++ PB).toArray tp (0, 0))) k k5 k6 (.slice oan nn cn) after (susL sus (Lf.take (i + 1))) (limL (Lf.take i)) := by
          refine ⟨(sG46.trans s51).wr hrk, ⟨b, kb, qb, Bx.new _ k _ _, ?_, offb.sub sG46, hneb⟩, (b646.sub s51).upd_ne _ hk6k, (b546.sub s51).upd_ne _ hk5k⟩
          rw [hsus1]
          unfold susStep
          rw [if_pos e']
          exact Owns.mono ownb fun a o ha hb => by rw [Vx.upd_ne _ _ (hneb a ha).1]; exact hb
        generalize H51.upd k (.cells (PA ++ [Value.slice oan nn cn, .string after, .slice ob mm dd].set 2 (.slice b kb qb) ++ PB).toArray tp (0, 0)) = H55 at *
        exact key H55 hT2
      · refine key H17 ?_
        have e' : (stateL (y1, y2, y3, y4, y5, y6, y7, y8, y9, y10, ⟨ya, yb, yc, yl⟩, ⟨za, zb, zc, zl⟩, ⟨wa, wb, wc, wl⟩) == 2) = false := e
        rw [hsus1]
        unfold susStep
        rw [if_neg (by rw [e']; simp)]
        exact hT
    · intro H55 hT2
      have okx55 := okG.mono hT2.sub
      refine (whole_ok okx55).mono ?_
      rintro _ H57 ⟨rfl, hH⟩
      obtain rfl := hH.symm
      refine ⟨_, rfl, fun e => ?_, fun e => ?_⟩
      · have e' : wholeB (y1, y2, y3, y4, y5, y6, y7, y8, y9, y10, ⟨ya, yb, yc, yl⟩, ⟨za, zb, zc, zl⟩, ⟨wa, wb, wc, wl⟩) = false := by simpa using e
        have hz : RdL _ sE 1 za zb zl := okx55.names
        have hzl := hz.len
        have hz0 : 0 < zb := by
          rcases Nat.eq_zero_or_pos zb with h0 | h0
          · have : zl = [] := List.eq_nil_of_length_eq_zero (by omega)
            subst this
            simp [wholeB, names_] at e'
          · exact h0
        have hzs : zb ≤ 300 := okx55.small
        refine (maxS_ok hz hz0 (by omega)).mono ?_
        rintro _ H60 ⟨rfl, hH⟩
        obtain rfl := hH.symm
        refine ⟨_, rfl, (limit_ok hT2.b6 hT2.b5 hk56).mono ?_⟩
        rintro _ H63 ⟨rfl, f6, f5, hkeep⟩
        have hlim : limL (Lf.take (i + 1)) = limStep (limL (Lf.take i)) (maxL zl) := by rw [htk, limL_snoc, e', if_neg (by simp)]
        rw [wrapS (by omega) (by omega)]
        refine ⟨rfl, ⟨by omega, by omega, ?_⟩, ⟨by simp only; omega⟩⟩
        rw [show ((i : Int) + 1).toNat = i + 1 by omega, hlim]
        exact hT2.lim f6 f5 hkeep hr5 hr6 hk5k hk6k
      · have e' : wholeB (y1, y2, y3, y4, y5, y6, y7, y8, y9, y10, ⟨ya, yb, yc, yl⟩, ⟨za, zb, zc, zl⟩, ⟨wa, wb, wc, wl⟩) = true := by simpa using e
        have hlim : limL (Lf.take (i + 1)) = limL (Lf.take i) := by rw [htk, limL_snoc, e', if_pos rfl]
        rw [wrapS (by omega) (by omega)]
        refine ⟨⟨by omega, by omega, ?_⟩, ⟨by simp only; omega⟩⟩
        rw [show ((i : Int) + 1).toNat = i + 1 by omega, hlim]
        exact hT2
  · have hi' : ¬ i < k12 := by simpa using hi
    rw [List.take_of_length_le (by omega)] at hT
    obtain ⟨ob, mm, dd, hbk17, hown17, hoff17, hne17⟩ := hT.row
    have e6 := hT.b6
    have e5 := hT.b5
    generalize hlimd : limL Lf = lim at *
    generalize hsusd : susL sus Lf = S at *
    refine ⟨fun t H' => match t with | [.int _ i] => 0 ≤ i ∧ i ≤ k12 ∧ ∃ F2 oa2 n2 c2, Sub G F2 ∧ Sub F2 H' ∧ F2 k = none ∧ F2 k5 = none ∧ F2 k6 = none ∧ Off F2 ob ∧ Bx H' k tp (PA ++ [.slice oa2 n2 c2, .string after, .slice ob mm dd] ++ PB) ∧ RdL F2 sE 1 oa2 n2 (namesL lim names (Lf.take i.toNat)) ∧ Bx H' k6 4 [.bool lim.1] ∧ Bx H' k5 9 [.string lim.2] ∧ OwnL H' 3 Hp.iE 1 ob mm dd S | _ => False,
      fun t _ => match t with | [.int _ i] => (k12 - i).toNat | _ => 0, ⟨by omega, by omega, G, oan, nn, cn, Sub.refl _, sG, hrk, hr5, hr6, hoff17, hbk17, by simpa [namesL] using hnm.mono hF10, e6, e5, hown17⟩, ?_⟩
    rintro j H75 ⟨j0, j1, F2, oa2, n2, c2, sF2, sH, fk, f5, f6, fob, hbk75, hnm75, e6, e5, hown75⟩
    obtain ⟨j, rfl⟩ : ∃ z : Nat, j = z := ⟨j.toNat, by omega⟩
    rw [Int.toNat_natCast] at hnm75
    have hL75 := (hLF.mono sF2).mono sH
    refine ⟨fun hj => ?_, fun hj => ?_⟩
    · have hj' : j < k12 := by simpa using hj
      obtain ⟨x, hx, hxr⟩ := hL75.ex (i := (j : Int)) (by omega) (by omega)
      rw [Int.toNat_natCast] at hx
      have okx := hokL x (List.mem_of_getElem? hx)
      have okx75 := ((okx.mono hF10).mono sF2).mono sH
      have htk : Lf.take (j + 1) = Lf.take j ++ [x] := by rw [List.take_add_one, hx]; rfl
      have hsumj : sumN (Lf.take (j + 1)) ≤ sumN Lf := sumN_take Lf (j + 1)
      have hsx : sumN (Lf.take (j + 1)) = sumN (Lf.take j) + (names_ x).l.length := by rw [htk]; simp [sumN]
      have hnl := namesL_len lim names (Lf.take j)
      have hnew := namesL_snoc lim names (Lf.take j) x
      rw [← htk] at hnew
      obtain ⟨y1, y2, y3, y4, y5, y6, y7, y8, y9, y10, ⟨ya, yb, yc, yl⟩, ⟨za, zb, zc, zl⟩, ⟨wa, wb, wc, wl⟩⟩ := x
      have hz : RdL H75 sE 1 za zb zl := okx75.names
      have hzs : zb ≤ 300 := okx75.small
      have hzl := hz.len
      simp only [names_] at hsx hnew
      refine ⟨hL75.ob (by omega) (by omega), y1, y2, y3, y4, y5, y6, y7, y8, y9, y10, ya, yb, yc, za, zb, zc, wa, wb, wc, hxr, (cloneS_ok hz (by omega)).mono ?_⟩
      rintro _ H96 ⟨b1, q1, rfl, o1, s96, off1⟩
      refine ⟨b1, zb, q1, rfl, (delS_own (p := farB lim) s96 off1 o1 (by omega) fun G1 y Q hs hQ => ?_).mono ?_⟩
      · refine CallY.fn (by kernel_rfl) ?_
        exact far_ok' (e6.sub hs) (e5.sub hs) (hQ G1 (Sub.refl _))
      rintro _ H101 ⟨m2, q2, rfl, r2, s101⟩
      have hbk101 := hbk75.sub s101
      have hm2 := r2.len
      have hfl := List.length_filter_le (fun s => !farB lim s) zl
      have hnml := hnm75.len
      refine ⟨b1, m2, q2, rfl, obA k PA, obA k PA, oa2, n2, c2, hbk101.fldA rfl, fun k108 hk108 => ?_⟩
      have s108 := Sub.upd (.cells (([⟨oa2, n2, c2, namesL lim names (Lf.take j)⟩, ⟨b1, m2, q2, zl.filter fun s => !farB lim s⟩] : List TT).flatMap Sl.E).toArray 49 (0, 0)) hk108
      have hT : RdT (H101.upd k108 (.cells (([⟨oa2, n2, c2, namesL lim names (Lf.take j)⟩, ⟨b1, m2, q2, zl.filter fun s => !farB lim s⟩] : List TT).flatMap Sl.E).toArray 49 (0, 0))) (at0 k108) 2 [⟨oa2, n2, c2, namesL lim names (Lf.take j)⟩, ⟨b1, m2, q2, zl.filter fun s => !farB lim s⟩] := by
        refine ⟨Bx.rd (E := Sl.E) (sz := 1) (l := ([⟨oa2, n2, c2, namesL lim names (Lf.take j)⟩, ⟨b1, m2, q2, zl.filter fun s => !farB lim s⟩] : List TT)) (fun _ => rfl) (Bx.new H101 k108 49 _), fun p hp => ?_⟩
        simp at hp
        rcases hp with rfl | rfl
        · exact hnm75.mono ((sH.trans s101).trans s108)
        · exact r2.mono s108
      have hall : allT [⟨oa2, n2, c2, namesL lim names (Lf.take j)⟩, ⟨b1, m2, q2, zl.filter fun s => !farB lim s⟩] = namesL lim names (Lf.take j) ++ zl.filter fun s => !farB lim s := by simp [allT]
      refine (merge_own (c := 2) hT (by omega) (fun p hp => by
        simp at hp
        rcases hp with rfl | rfl
        · show n2 ≤ 100000; omega
        · show m2 ≤ 100000; omega) (by rw [hall, List.length_append]; omega)).mono ?_
      rintro _ H110 ⟨b3, m3, q3, R, rfl, r3, hmq, hRr, hRm, s110, off3⟩
      have hR : R = namesL lim names (Lf.take (j + 1)) := by
        rw [hnew]
        refine rising_ext hRr (mergeL_rising _).1 fun x => ?_
        rw [hRm, hall, (mergeL_rising _).2]
      have hsF : Sub F2 H110 := sH.trans (s101.trans (s108.trans s110))
      have s75 := s101.trans (s108.trans s110)
      have hbk110 := hbk75.sub s75
      have e6' := e6.sub s75
      have e5' := e5.sub s75
      have hown110 : OwnL H110 3 Hp.iE 1 ob mm dd S := Owns.mono hown75 fun a o _ hb => s75.le _ _ hb
      have hobm : ∀ q, q ∈ ob.toList.map (·.block) → ∃ a, ob = some a ∧ q = a.block := fun q hq => by
        obtain ⟨a, ha, rfl⟩ := List.mem_map.1 hq
        exact ⟨a, by simpa using ha, rfl⟩
      have hmob : ∀ a, ob = some a → a.block ∈ ob.toList.map (·.block) := fun a ha => List.mem_map.2 ⟨a, by simp [ha], rfl⟩
      rw [wrapS (by omega) (by omega)]
      refine ⟨b3, m3, q3, rfl, obA k PA, obA k PA, _, hbk110.putA (i := 0) (x := .slice b3 m3 q3) (by simp), ⟨by omega, by omega, rest H110 (k :: k5 :: k6 :: ob.toList.map (·.block)), b3, m3, q3, sF2.trans (rest_le hsF fun q hq => ?_), ?_, rest_none (by simp), rest_none (by simp), rest_none (by simp), fun a ha => rest_none (by simp only [List.mem_cons]; exact .inr (.inr (.inr (hmob a ha)))), Bx.new _ k _ _, ?_, e6'.upd_ne _ hk6k, e5'.upd_ne _ hk5k, ?_⟩, ⟨by simp only; omega⟩⟩
      · simp only [List.mem_cons] at hq
        rcases hq with rfl | rfl | rfl | hq
        · exact fk
        · exact f5
        · exact f6
        · obtain ⟨a, ha, rfl⟩ := hobm q hq
          exact fob a ha
      · exact rest_to fun q o hq ho => by rw [Vx.upd_ne _ _ (fun e => hq (by simp [e]))]; exact ho
      · rw [show ((j : Int) + 1).toNat = j + 1 by omega, ← hR]
        have offk := off3.sub s108
        exact r3.rest fun a ha hq => by
          simp only [List.mem_cons] at hq
          rcases hq with e | e | e | e
          · exact offk.ne hbk101 a ha e
          · exact offk.ne (e5.sub s101) a ha e
          · exact offk.ne (e6.sub s101) a ha e
          · obtain ⟨b, hb', e'⟩ := hobm _ e
            have hown101 : OwnL H101 3 Hp.iE 1 ob mm dd S := Owns.mono hown75 fun a o _ hb => s101.le _ _ hb
            subst hb'
            obtain ⟨o, ho⟩ := hown101.blk
            exact offk.ne ho a ha e'
      · exact Owns.mono hown110 fun a o ha hb => by rw [Vx.upd_ne _ _ (hne17 a ha).1]; exact hb
    · have hj' : ¬ j < k12 := by simpa using hj
      rw [List.take_of_length_le (by omega)] at hnm75
      refine ⟨lim.1, e6.reads, fun e => ?_, fun e => ?_⟩
      · have e' : lim.1 = false := by simpa using e
        refine ⟨lim.2, e5.reads, obA k PA, obA k PA, _, hbk75.putA (i := 1) (x := .string lim.2) (by simp), lim.1, (e6.upd_ne _ hk6k).reads, rfl, F2, hF10.trans sF2, ?_⟩
        rw [e', if_neg (by simp)]
        exact ⟨⟨fun q o hq => by rw [Vx.upd_ne _ _ (fun e => by rw [e, fk] at hq; cases hq)]; exact sH.le _ _ hq⟩, fk, oa2, n2, c2, ob, mm, dd, Bx.new _ k _ _, hnm75, Owns.mono hown75 fun a o ha hb => by rw [Vx.upd_ne _ _ (hne17 a ha).1]; exact hb, fob, fun a ha => (hne17 a ha).1⟩
      · have e' : lim.1 = true := by simpa using e
        refine ⟨lim.1, e6.reads, rfl, F2, hF10.trans sF2, ?_⟩
        rw [e', if_pos rfl]
        exact ⟨sH, fk, oa2, n2, c2, ob, mm, dd, hbk75, hnm75, hown75, fob, fun a ha => (hne17 a ha).1⟩
theorem fldM {H : PHeap} {oa : Option Addr} {x : Msg} (h : Reads H oa (mE x)) {j : Nat} {v : Value} (hv : (mE x)[j]? = some v) : Reads H (fldA oa j) [v] := h.fld j fun i u hu => by
  match i, hu with
  | 0, hu => simp at hu; subst hu; exact hv
  | i + 1, hu => simp at hu
/-- How many are sound. -/
def cntL (L : List Msg) : Nat := (L.filter fun m => kind_ m == 20 && stateL m == 1).length
theorem cnt_filter (L : List Msg) : ((L.filter fun m => kind_ m == 20).filter fun m => stateL m == 1).length = cntL L := by
  unfold cntL; rw [List.filter_filter]; congr 1; exact List.filter_congr fun m _ => Bool.and_comm _ _
theorem enough_ok {F H : PHeap} {k : Nat} {names : List ByteArray} {after : ByteArray} {sus : List Int} {p : Plan} {oa : Option Addr} {n c : Nat} {L : List Msg} (h : PgT tp PA PB F H k names after sus) (hl : RdL F mE 13 oa n L) (hok : ∀ m ∈ L, OkP F m) (hn : n ≤ 100) :
    Triple Tryz.prog 87 #[.pointer (pt k PA), p.v, .slice oa n c] H fun v H' => v = .bool (p.ok && decide ((cntL L : Int) ≥ p.n - p.w + 1)) ∧ Sub H H' := by
  refine pEnough.vc (pt k PA) p.n p.t p.l p.w p.s p.r oa n c H _ ⟨fun _ => (right_ok p).use ⟨_, rfl, fun e => ?_, fun e => ?_⟩, fun e => by simp [pt, at0, fldA] at e⟩
  · have : p.ok = false := by simpa using e
    exact ⟨by rw [this]; rfl, Sub.refl _⟩
  have hp : p.ok = true := by simpa using e
  refine (listed_ok (hl.mono h.sub) (by omega)).mono ?_
  rintro _ H15 ⟨a, m, q, rfl, hL, hs, _⟩
  have hll : (L.filter fun m => kind_ m == 20).length = m := hL.len
  have hlen := List.length_filter_le (fun m => kind_ m == 20) L
  have hln := hl.len
  refine ⟨a, m, q, rfl, fun t H' => match t with | [.int _ z, .int _ i] => 0 ≤ i ∧ i ≤ m ∧ H' = H15 ∧ z = ((((L.filter fun m => kind_ m == 20).take i.toNat).filter fun m => stateL m == 1).length : Nat) | _ => False, fun t _ => match t with | [_, .int _ i] => (m - i).toNat | _ => 0, ⟨by omega, by omega, rfl, by simp⟩, ?_⟩
  rintro z i H23 ⟨i0, i1, hH, rfl⟩
  obtain rfl := hH.symm
  obtain ⟨i, rfl⟩ : ∃ j : Nat, i = j := ⟨i.toNat, by omega⟩
  rw [Int.toNat_natCast]
  have hcl : (((L.filter fun m => kind_ m == 20).take i).filter fun m => stateL m == 1).length ≤ i := by
    have := List.length_filter_le (fun m => stateL m == 1) ((L.filter fun m => kind_ m == 20).take i)
    rw [List.length_take] at this; omega
  refine ⟨fun hi => ?_, fun hi => ?_⟩
  · have hi' : i < m := by simpa using hi
    obtain ⟨x, hx, hxr⟩ := hL.ex (i := (i : Int)) (by omega) (by omega)
    rw [Int.toNat_natCast] at hx
    have okx := (hok x (List.mem_filter.1 (List.mem_of_getElem? hx)).1).mono (h.sub.trans hs)
    have st := state_ok okx
    have htk : (L.filter fun m => kind_ m == 20).take (i + 1) = (L.filter fun m => kind_ m == 20).take i ++ [x] := by rw [List.take_add_one, hx]; rfl
    obtain ⟨y1, y2, y3, y4, y5, y6, y7, y8, y9, y10, ⟨ya, yb, yc, yl⟩, ⟨za, zb, zc, zl⟩, ⟨wa, wb, wc, wl⟩⟩ := x
    refine ⟨hL.ob (by omega) (by omega), y1, y2, y3, y4, y5, y6, y7, y8, y9, y10, ya, yb, yc, za, zb, zc, wa, wb, wc, hxr, st.mono ?_⟩
    rintro _ H44 ⟨rfl, hH⟩
    obtain rfl := hH.symm
    rw [wrapS (by omega) (by omega), wrapS (by omega) (by omega)]
    refine ⟨_, rfl, ⟨by omega, by omega, rfl, ?_⟩, ⟨by simp only; omega⟩⟩
    rw [show ((i : Int) + 1).toNat = i + 1 by omega, htk, List.filter_append, List.length_append]
    cases hst : stateL (y1, y2, y3, y4, y5, y6, y7, y8, y9, y10, ⟨ya, yb, yc, yl⟩, ⟨za, zb, zc, zl⟩, ⟨wa, wb, wc, wl⟩) == 1 <;> simp [hst]
  · have hi' : ¬ i < m := by simpa using hi
    rw [List.take_of_length_le (by omega), cnt_filter]
    refine (quorum_ok H15 p).mono ?_
    rintro _ H47 ⟨rfl, hs2⟩
    refine ⟨_, rfl, ?_, hs.trans hs2⟩
    rw [hp, if_pos rfl]
    rfl
end Go.Page
namespace Go.Vc
open Go.Vx Go
def cHelpers.cx : Cx := ⟨[], [], [], []⟩
def cTargets.cx : Cx := ⟨[], [], [], []⟩
def cThose.cx : Cx := ⟨[3], [], [], []⟩
def cThose1.cx : Cx := ⟨[], [], [], []⟩
def cFirst.cx : Cx := ⟨[], [], [], []⟩
def delI.cx : Cx := ⟨[], [(5, [5, 6], [])], [], []⟩
def planIs.cx : Cx := ⟨[], [], [], []⟩
def planNeed.cx : Cx := ⟨[1], [], [], []⟩
def planNeed1.cx : Cx := ⟨[], [], [], []⟩
def sGone.cx : Cx := ⟨[], [], [], []⟩
def sGone1.cx : Cx := ⟨[], [], [], []⟩
def sGone2.cx : Cx := ⟨[], [], [], []⟩
theorem cHelpers.vc (n1 : Int) (n2 : Int) (n3 : Int) (n4 : Int) (n5 : Int) (n6 : Int) (a7 : Option Addr) (k8 : Nat) (k9 : Nat) (n10 : Int) (H : PHeap) (Q : Value → PHeap → Prop)
 (h : Triple Proofs.Tryz.prog 95
 #[Value.agg #[Value.int IntKind.i64 n1, Value.int IntKind.i64 n2, Value.int IntKind.i64 n3, Value.int IntKind.i64 n4, Value.int IntKind.i64 n5, Value.int IntKind.i64 n6], Value.int IntKind.i64 n10]
 H fun v11 H12 =>
 ∃ b13,
 v11 = Value.bool b13 ∧
 ((!b13) = true → Q (Value.tuple #[Value.slice none 0 0, Value.bool false]) H12) ∧
 ((!b13) = false →
 ∃ H14,
 Vx.Sub H14 H12 ∧
 Triple Proofs.Tryz.prog 97
 #[Value.agg #[Value.int IntKind.i64 n1, Value.int IntKind.i64 n2, Value.int IntKind.i64 n3, Value.int IntKind.i64 n4, Value.int IntKind.i64 n5, Value.int IntKind.i64 n6],
 Value.slice a7 k8 k9, Value.int IntKind.i64 n10]
 H12 fun v15 H16 =>
 ∃ a17 k18 k19,
 v15 = Value.slice a17 k18 k19 ∧
 Vx.Sub H14 H16 ∧
 Triple Proofs.Tryz.prog 98
 #[Value.agg #[Value.int IntKind.i64 n1, Value.int IntKind.i64 n2, Value.int IntKind.i64 n3, Value.int IntKind.i64 n4, Value.int IntKind.i64 n5, Value.int IntKind.i64 n6]] H16
 fun v20 H21 =>
 ∃ n22,
 v20 = Value.int IntKind.i64 n22 ∧
 Triple Proofs.Tryz.prog 96 #[Value.slice a17 k18 k19, Value.int IntKind.i64 n22] H21 fun v23 H24 =>
 ∃ a25 k26 k27 b28, v23 = Value.tuple #[Value.slice a25 k26 k27, Value.bool b28] ∧ Q (Value.tuple #[Value.slice a25 k26 k27, Value.bool b28]) H24)) :
 Triple Go.Proofs.Tryz.prog 58 ([Value.agg #[Value.int IntKind.i64 n1, Value.int IntKind.i64 n2, Value.int IntKind.i64 n3, Value.int IntKind.i64 n4, Value.int IntKind.i64 n5, Value.int IntKind.i64 n6], Value.slice a7 k8 k9,
 Value.int IntKind.i64 n10]).toArray H Q :=
 Triple.of_vc cHelpers.cx (by kernel_rfl) h
theorem cTargets.vc (n1 : Int) (n2 : Int) (n3 : Int) (n4 : Int) (n5 : Int) (n6 : Int) (a7 : Option Addr) (k8 : Nat) (k9 : Nat) (H : PHeap) (Q : Value → PHeap → Prop)
 (h : Triple Proofs.Tryz.prog 85 #[Value.agg #[Value.int IntKind.i64 n1, Value.int IntKind.i64 n2, Value.int IntKind.i64 n3, Value.int IntKind.i64 n4, Value.int IntKind.i64 n5, Value.int IntKind.i64 n6]] H
 fun v10 H11 =>
 ∃ a12 k13 k14,
 v10 = Value.slice a12 k13 k14 ∧
 Triple Proofs.Tryz.prog 61 #[Value.slice a12 k13 k14, Value.slice a7 k8 k9] H11 fun v15 H16 => ∃ a17 k18 k19, v15 = Value.slice a17 k18 k19 ∧ Q (Value.slice a17 k18 k19) H16) :
 Triple Go.Proofs.Tryz.prog 156 ([Value.agg #[Value.int IntKind.i64 n1, Value.int IntKind.i64 n2, Value.int IntKind.i64 n3, Value.int IntKind.i64 n4, Value.int IntKind.i64 n5, Value.int IntKind.i64 n6], Value.slice a7 k8 k9]).toArray H Q :=
 Triple.of_vc cTargets.cx (by kernel_rfl) h
theorem cThose.vc (n1 : Int) (n2 : Int) (n3 : Int) (n4 : Int) (n5 : Int) (n6 : Int) (a7 : Option Addr) (k8 : Nat) (k9 : Nat) (n10 : Int) (H : PHeap) (Q : Value → PHeap → Prop)
 (h : ∀ (k11 : Nat),
 H k11 = none →
 ∀ (k12 : Nat),
 H.upd k11 (Obj.cells #[Value.int IntKind.i64 n1, Value.int IntKind.i64 n2, Value.int IntKind.i64 n3, Value.int IntKind.i64 n4, Value.int IntKind.i64 n5, Value.int IntKind.i64 n6] 23) k12 =
 none →
 Triple Proofs.Tryz.prog 61 #[Value.slice a7 k8 k9, Value.slice (at0 k12) 1 1]
 ((H.upd k11 (Obj.cells #[Value.int IntKind.i64 n1, Value.int IntKind.i64 n2, Value.int IntKind.i64 n3, Value.int IntKind.i64 n4, Value.int IntKind.i64 n5, Value.int IntKind.i64 n6] 23)).upd
 k12 (Obj.cells #[Value.int IntKind.i64 n10] 3))
 fun v13 H14 =>
 ∃ a15 k16 k17,
 v13 = Value.slice a15 k16 k17 ∧
 Triple Proofs.Tryz.prog 137 #[Value.slice a15 k16 k17, Value.func (Fn.func 138) #[] #[Value.pointer (at0 k11)]] H14 fun v18 H19 =>
 ∃ a20 k21 k22, v18 = Value.slice a20 k21 k22 ∧ Q (Value.slice a20 k21 k22) H19) :
 Triple Go.Proofs.Tryz.prog 97 ([Value.agg #[Value.int IntKind.i64 n1, Value.int IntKind.i64 n2, Value.int IntKind.i64 n3, Value.int IntKind.i64 n4, Value.int IntKind.i64 n5, Value.int IntKind.i64 n6], Value.slice a7 k8 k9,
 Value.int IntKind.i64 n10]).toArray H Q :=
 Triple.of_vc cThose.cx (by kernel_rfl) h
theorem cThose1.vc (n1 : Int) (a2 : Option Addr) (H : PHeap) (Q : Value → PHeap → Prop)
 (h : ∃ n3 n4 n5 n6 n7 n8,
 Reads H a2 [Value.int IntKind.i64 n3, Value.int IntKind.i64 n4, Value.int IntKind.i64 n5, Value.int IntKind.i64 n6, Value.int IntKind.i64 n7, Value.int IntKind.i64 n8] ∧
 Triple Proofs.Tryz.prog 95
 #[Value.agg #[Value.int IntKind.i64 n3, Value.int IntKind.i64 n4, Value.int IntKind.i64 n5, Value.int IntKind.i64 n6, Value.int IntKind.i64 n7, Value.int IntKind.i64 n8],
 Value.int IntKind.i64 n1]
 H fun v9 H10 => ∃ b11, v9 = Value.bool b11 ∧ Q (Value.bool !b11) H10) :
 Triple Go.Proofs.Tryz.prog 138 ([Value.int IntKind.i64 n1, Value.pointer a2]).toArray H Q :=
 Triple.of_vc cThose1.cx (by kernel_rfl) h
theorem cFirst.vc (a1 : Option Addr) (k2 : Nat) (k3 : Nat) (n4 : Int) (H : PHeap) (Q : Value → PHeap → Prop)
 (h : ((bif decide (n4 < 1) then true else decide ((↑k2 : Int) < n4)) = true → Q (Value.tuple #[Value.slice none 0 0, Value.bool false]) H) ∧
 ((bif decide (n4 < 1) then true else decide ((↑k2 : Int) < n4)) = false →
 Ob ((0 : Int) ≤ 0 ∧ 0 ≤ n4 ∧ n4 ≤ n4 ∧ n4 ≤ (↑k3 : Int)) ∧ Q (Value.tuple #[Value.slice (slA a1 0 n4.toNat 1) (n4.toNat - Int.toNat 0) (n4.toNat - Int.toNat 0), Value.bool true]) H)) :
 Triple Go.Proofs.Tryz.prog 96 ([Value.slice a1 k2 k3, Value.int IntKind.i64 n4]).toArray H Q :=
 Triple.of_vc cFirst.cx (by kernel_rfl) h
theorem delI.vc (a1 : Option Addr) (k2 : Nat) (k3 : Nat) (v4 : Value) (H : PHeap) (Q : Value → PHeap → Prop)
 (h : Triple Proofs.Tryz.prog 118 #[Value.slice a1 k2 k3, v4] H fun v5 H6 =>
 ∃ n7,
 v5 = Value.int IntKind.i64 n7 ∧
 ((n7 == -1) = true → Q (Value.slice a1 k2 k3) H6) ∧
 ((n7 == -1) = false →
 ∃ (R8 : Rl) (M9 : Mu),
 R8 [Value.int IntKind.i64 n7, Value.int IntKind.i64 (IntKind.i64.wrap (n7 + 1))] H6 ∧
 ∀ (n10 n11 : Int) (H12 : PHeap),
 R8 [Value.int IntKind.i64 n10, Value.int IntKind.i64 n11] H12 →
 (decide (n11 < (↑k2 : Int)) = true →
 Ob (a1 ≠ none ∧ 0 ≤ n11 ∧ n11 < (↑k2 : Int)) ∧
 ∃ n13,
 Reads H12 (elemA a1 n11 1) [Value.int IntKind.i64 n13] ∧
 CallY Proofs.Tryz.prog v4 #[Value.int IntKind.i64 n13] H12 fun v14 H15 =>
 ∃ b16,
 v14 = Value.bool b16 ∧
 ((!b16) = true →
 Ob (a1 ≠ none ∧ 0 ≤ n10 ∧ n10 < (↑k2 : Int)) ∧
 ∃ H17,
 Writes H15 H17 (elemA a1 n10 1) [Value.int IntKind.i64 n13] ∧
 R8 [Value.int IntKind.i64 (IntKind.i64.wrap (n10 + 1)), Value.int IntKind.i64 (IntKind.i64.wrap (n11 + 1))] H17 ∧
 Less (M9 [Value.int IntKind.i64 (IntKind.i64.wrap (n10 + 1)), Value.int IntKind.i64 (IntKind.i64.wrap (n11 + 1))] H17)
 (M9 [Value.int IntKind.i64 n10, Value.int IntKind.i64 n11] H12)) ∧
 ((!b16) = false →
 R8 [Value.int IntKind.i64 n10, Value.int IntKind.i64 (IntKind.i64.wrap (n11 + 1))] H15 ∧
 Less (M9 [Value.int IntKind.i64 n10, Value.int IntKind.i64 (IntKind.i64.wrap (n11 + 1))] H15)
 (M9 [Value.int IntKind.i64 n10, Value.int IntKind.i64 n11] H12))) ∧
 (decide (n11 < (↑k2 : Int)) = false →
 Ob (0 ≤ n10 ∧ n10 ≤ (↑k2 : Int) ∧ (↑k2 : Int) ≤ (↑k3 : Int)) ∧
 EvV Proofs.Tryz.prog (Builtin.clear_ #[42] 0 #[Value.slice (slA a1 n10 k3 1) ((↑k2 : Int).toNat - n10.toNat) (k3 - n10.toNat)]) H12 fun v18 H19 =>
 Ob ((0 : Int) ≤ 0 ∧ 0 ≤ n10 ∧ n10 ≤ (↑k3 : Int)) ∧ Q (Value.slice (slA a1 0 k3 1) (n10.toNat - Int.toNat 0) (k3 - Int.toNat 0)) H19))) :
 Triple Go.Proofs.Tryz.prog 137 ([Value.slice a1 k2 k3, v4]).toArray H Q :=
 Triple.of_vc delI.cx (by kernel_rfl) h
theorem planIs.vc (n1 : Int) (n2 : Int) (n3 : Int) (n4 : Int) (n5 : Int) (n6 : Int) (n7 : Int) (H : PHeap) (Q : Value → PHeap → Prop)
 (h : Triple Proofs.Tryz.prog 19 #[Value.agg #[Value.int IntKind.i64 n1, Value.int IntKind.i64 n2, Value.int IntKind.i64 n3, Value.int IntKind.i64 n4, Value.int IntKind.i64 n5, Value.int IntKind.i64 n6]] H
 fun v8 H9 =>
 ∃ b10,
 v8 = Value.bool b10 ∧
 (b10 = true → Triple Proofs.Tryz.prog 52 #[Value.int IntKind.i64 n7, Value.int IntKind.i64 1, Value.int IntKind.i64 n1] H9 fun v11 H12 => ∃ b13, v11 = Value.bool b13 ∧ Q (Value.bool b13) H12) ∧
 (b10 = !true → Q (Value.bool false) H9)) :
 Triple Go.Proofs.Tryz.prog 95 ([Value.agg #[Value.int IntKind.i64 n1, Value.int IntKind.i64 n2, Value.int IntKind.i64 n3, Value.int IntKind.i64 n4, Value.int IntKind.i64 n5, Value.int IntKind.i64 n6], Value.int IntKind.i64 n7]).toArray H Q :=
 Triple.of_vc planIs.cx (by kernel_rfl) h
theorem planNeed.vc (n1 : Int) (n2 : Int) (n3 : Int) (n4 : Int) (n5 : Int) (n6 : Int) (H : PHeap) (Q : Value → PHeap → Prop)
 (h : ∀ (k7 : Nat),
 H k7 = none →
 ∃ n8 n9 n10 n11 n12 n13,
 Reads (H.upd k7 (Obj.cells #[Value.int IntKind.i64 n1, Value.int IntKind.i64 n2, Value.int IntKind.i64 n3, Value.int IntKind.i64 n4, Value.int IntKind.i64 n5, Value.int IntKind.i64 n6] 23))
 (at0 k7)
 [Value.int IntKind.i64 n8, Value.int IntKind.i64 n9, Value.int IntKind.i64 n10, Value.int IntKind.i64 n11, Value.int IntKind.i64 n12, Value.int IntKind.i64 n13] ∧
 Triple Proofs.Tryz.prog 139
 #[Value.agg #[Value.int IntKind.i64 n8, Value.int IntKind.i64 n9, Value.int IntKind.i64 n10, Value.int IntKind.i64 n11, Value.int IntKind.i64 n12, Value.int IntKind.i64 n13],
 Value.func (Fn.func 140) #[] #[Value.pointer (at0 k7)]]
 (H.upd k7 (Obj.cells #[Value.int IntKind.i64 n1, Value.int IntKind.i64 n2, Value.int IntKind.i64 n3, Value.int IntKind.i64 n4, Value.int IntKind.i64 n5, Value.int IntKind.i64 n6] 23))
 fun v14 H15 => ∃ n16, v14 = Value.int IntKind.i64 n16 ∧ Q (Value.int IntKind.i64 n16) H15) :
 Triple Go.Proofs.Tryz.prog 98 ([Value.agg #[Value.int IntKind.i64 n1, Value.int IntKind.i64 n2, Value.int IntKind.i64 n3, Value.int IntKind.i64 n4, Value.int IntKind.i64 n5, Value.int IntKind.i64 n6]]).toArray H Q :=
 Triple.of_vc planNeed.cx (by kernel_rfl) h
theorem planNeed1.vc (a1 : Option Addr) (H : PHeap) (Q : Value → PHeap → Prop)
 (h : Ob (a1 ≠ none) ∧ ∃ n2, Reads H (fldA a1 1) [Value.int IntKind.i64 n2] ∧ Ob (a1 ≠ none) ∧ ∃ n3, Reads H (fldA a1 2) [Value.int IntKind.i64 n3] ∧ Q (Value.int IntKind.i64 (IntKind.i64.wrap (n2 + n3))) H) :
 Triple Go.Proofs.Tryz.prog 140 ([Value.pointer a1]).toArray H Q :=
 Triple.of_vc planNeed1.cx (by kernel_rfl) h
theorem sGone.vc (n1 : Int) (n2 : Int) (n3 : Int) (n4 : Int) (n5 : Int) (n6 : Int) (a7 : Option Addr) (k8 : Nat) (k9 : Nat) (H : PHeap) (Q : Value → PHeap → Prop)
 (h : ∃ H10,
 Vx.Sub H10 H ∧
 Triple Proofs.Tryz.prog 19
 #[Value.agg #[Value.int IntKind.i64 n1, Value.int IntKind.i64 n2, Value.int IntKind.i64 n3, Value.int IntKind.i64 n4, Value.int IntKind.i64 n5, Value.int IntKind.i64 n6]] H fun v11 H12 =>
 ∃ b13,
 v11 = Value.bool b13 ∧
 Vx.Sub H10 H12 ∧
 (b13 = true →
 ∀ (k14 : Nat),
 H12 k14 = none →
 Vx.Sub H10 (H12.upd k14 (Obj.cells #[Value.func (Fn.func 179) #[] #[]] 91)) ∧
 Triple Proofs.Tryz.prog 160 #[Value.slice a7 k8 k9, Value.slice (at0 k14) 1 1] (H12.upd k14 (Obj.cells #[Value.func (Fn.func 179) #[] #[]] 91))
 fun v15 H16 =>
 ∃ n17,
 v15 = Value.int IntKind.i64 n17 ∧
 Vx.Sub H10 H16 ∧
 (decide (n17 ≥ n1) = true →
 ∀ (k18 : Nat),
 H16 k18 = none →
 Triple Proofs.Tryz.prog 160 #[Value.slice a7 k8 k9, Value.slice (at0 k18) 2 2]
 (H16.upd k18 (Obj.cells #[Value.func (Fn.func 179) #[] #[], Value.func (Fn.func 180) #[] #[]] 91)) fun v19 H20 =>
 ∃ n21, v19 = Value.int IntKind.i64 n21 ∧ Q (Value.bool (decide (n21 > 0))) H20) ∧
 (decide (n17 ≥ n1) = !true → Q (Value.bool false) H16)) ∧
 (b13 = !true → Q (Value.bool false) H12)) :
 Triple Go.Proofs.Tryz.prog 157 ([Value.agg #[Value.int IntKind.i64 n1, Value.int IntKind.i64 n2, Value.int IntKind.i64 n3, Value.int IntKind.i64 n4, Value.int IntKind.i64 n5, Value.int IntKind.i64 n6], Value.slice a7 k8 k9]).toArray H Q :=
 Triple.of_vc sGone.cx (by kernel_rfl) h
theorem sGone1.vc (n1 : Int) (n2 : Int) (n3 : Int) (n4 : Int) (s5 : ByteArray) (n6 : Int) (n7 : Int) (n8 : Int) (n9 : Int) (n10 : Int) (a11 : Option Addr) (k12 : Nat) (k13 : Nat) (a14 : Option Addr) (k15 : Nat) (k16 : Nat) (a17 : Option Addr) (k18 : Nat) (k19 : Nat) (H : PHeap) (Q : Value → PHeap → Prop)
 (h : Q (Value.bool (n1 == 14)) H) :
 Triple Go.Proofs.Tryz.prog 179 ([Value.agg
 #[Value.int IntKind.i64 n1, Value.int IntKind.i64 n2, Value.int IntKind.i64 n3, Value.int IntKind.i64 n4, Value.string s5, Value.int IntKind.i64 n6, Value.int IntKind.i64 n7,
 Value.int IntKind.i64 n8, Value.int IntKind.i64 n9, Value.int IntKind.i64 n10, Value.slice a11 k12 k13, Value.slice a14 k15 k16, Value.slice a17 k18 k19]]).toArray H Q :=
 Triple.of_vc sGone1.cx (by kernel_rfl) h
theorem sGone2.vc (n1 : Int) (n2 : Int) (n3 : Int) (n4 : Int) (s5 : ByteArray) (n6 : Int) (n7 : Int) (n8 : Int) (n9 : Int) (n10 : Int) (a11 : Option Addr) (k12 : Nat) (k13 : Nat) (a14 : Option Addr) (k15 : Nat) (k16 : Nat) (a17 : Option Addr) (k18 : Nat) (k19 : Nat) (H : PHeap) (Q : Value → PHeap → Prop)
 (h : Q (Value.bool (n10 != 0)) H) :
 Triple Go.Proofs.Tryz.prog 180 ([Value.agg
 #[Value.int IntKind.i64 n1, Value.int IntKind.i64 n2, Value.int IntKind.i64 n3, Value.int IntKind.i64 n4, Value.string s5, Value.int IntKind.i64 n6, Value.int IntKind.i64 n7,
 Value.int IntKind.i64 n8, Value.int IntKind.i64 n9, Value.int IntKind.i64 n10, Value.slice a11 k12 k13, Value.slice a14 k15 k16, Value.slice a17 k18 k19]]).toArray H Q :=
 Triple.of_vc sGone2.cx (by kernel_rfl) h
end Go.Vc
namespace Go.Vx
/-- One element more behind a slice that is full: it moves. -/
theorem append_full {P : Program} {t ty e : TypeId} {sz bytes : Nat} (T : ElemT P t e sz bytes) {H : PHeap} {a : Addr} {n : Nat} {k : Nat} (hk : H k = none) {tk : TypeId} {ca : Array Value}
    {α : Type} {E : α → List Value} {l : List α} {x : α} (hE : ∀ x, (E x).length = sz) (hrd : RdL H E sz (some a) n l) (hca : ca.toList = E x) (h1 : ∀ u ∈ E x, u.oneCell' = true)
    (h63 : n + 1 ≤ maxLen) (hbytes : (n + 1) * bytes ≤ 140737488355328) {K : Value → PHeap → Prop}
    (hK : ∀ oa' c' H', OwnL H' e E sz oa' (n + 1) c' (l ++ [x]) → Sub H H' → Off H oa' → K (.slice oa' (n + 1) c') H') :
    EvV P (Builtin.append_ #[t, t] ty #[.slice (some a) n n, .slice (some ⟨k, 0, none⟩) 1 1]) (H.upd k (.cells ca tk)) K := by
  obtain ⟨i, z, hi, hz, hsz, hby, hzs⟩ := T.info
  have hs0 : Sub H (H.upd k (.cells ca tk)) := Sub.upd _ hk
  have hrd' := hrd.mono hs0
  have hlx : (l.flatMap E).length = n * sz := by rw [length_flatMap hE, hrd.len]
  have hnew : ∀ (j : Nat) u, (E x)[j]? = some u → hcell (H.upd k (.cells ca tk)) (Addr.add ⟨k, 0, none⟩ j) = some u := fun j u hj => by
    unfold hcell
    rw [Addr.add_lit]
    simp [upd_eq]
    rw [← hca] at hj
    simpa using hj
  refine ⟨fun w hs => ?_⟩
  obtain ⟨v', w', hrun, ho, hgr⟩ := run_append_arg_grows (P := P) w t ty e i z sz bytes T.under hi hz hsz hby hzs T.pos a n n (l.flatMap E) hlx (fun j u hj => hcell_world hs (hrd'.flat hE j u hj)) ⟨k, 0, none⟩ 1 1 (E x) (by rw [hE]; simp) (fun j u hj => hcell_world hs (hnew j u hj)) (by omega) h63 hbytes
  rcases ho.2 with ⟨_, e0⟩ | ⟨g, cap, cur, rfl, hbg, hgc, hnc, hcm, hcs, htk⟩
  · omega
  · have hH : (H.upd k (.cells ca tk)) g = none := sees_none hs hbg
    refine ⟨_, w', (H.upd k (.cells ca tk)).upd g (.cells cur e (0, 0)), hrun, grown_frame hs hgr (fun _ h => by cases h) hgc hbg rfl, hK _ cap _ ⟨?_, .inr ⟨g, cur, rfl, upd_eq .., hnc, hcm, hcs, ?_⟩⟩ (hs0.trans (Sub.upd _ hH)) (fun z hz => by cases hz; exact hs0.none hH)⟩
    · rw [length_flatMap hE, List.length_append, hrd.len]; rfl
    · rw [htk, List.flatMap_append]; simp
end Go.Vx
namespace Go.Cho
open Go.Vx Go.Vc Go.Proofs Go.Pln Go.Stl Go.Agr
open Go.Hp (rest_ok restL restL_spec restL_len Asc asc_ext has_ok refRest_ok)
open Go.Rnd (takesG insG froms againG OkM AscG)
theorem zI : ∀ i z, Tryz.prog.info? 3 = some i → i.zero = some z → z.cells.toList = iE 0 := fun i z hi hz => by
  have h0 : (Tryz.prog.info? 3).bind (·.zero) = some (.int .i64 0) := by kernel_rfl
  rw [hi] at h0
  simp at h0
  rw [h0] at hz
  cases hz
  rfl
theorem idxFI_ok {F H : PHeap} {oa : Option Addr} {n c : Nat} {l : List Int} {f : Value} {p : Int → Bool} (hF : Sub F H) (hl : RdL H iE 1 oa n l) (hn : n ≤ 100000) (hf : Rnd.Tells F f vI p) :
    Triple Tryz.prog 118 #[.slice oa n c, f] H fun v H' => ∃ i : Int, v = .int .i64 i ∧ Sub H H' ∧ ((i = -1 ∧ l.any p = false) ∨ ∃ (j : Nat) (x : Int), i = j ∧ l[j]? = some x ∧ p x = true ∧ (l.take j).any p = false) := by
  have hll := hl.len
  refine idxFunc.vc oa n c f H _ ⟨fun t H' => match t with | [.int _ i] => 0 ≤ i ∧ i ≤ n ∧ Sub H H' ∧ (l.take i.toNat).any p = false | _ => False, fun t _ => match t with | [.int _ i] => (n - i).toNat | _ => 0, ⟨by omega, by omega, Sub.refl _, by simp⟩, ?_⟩
  rintro i H1 ⟨i0, i1, hs, hno⟩
  obtain ⟨i, rfl⟩ : ∃ j : Nat, i = j := ⟨i.toNat, by omega⟩
  rw [Int.toNat_natCast] at hno
  have hl1 := hl.mono hs
  refine ⟨fun hi => ?_, fun hi => ?_⟩
  · have hi' : i < n := by simpa using hi
    obtain ⟨y, hy, hyr⟩ := hl1.ex (i := (i : Int)) (by omega) (by omega)
    rw [Int.toNat_natCast] at hy
    refine ⟨hl1.ob (by omega) (by omega), y, hyr, hf H1 y _ (hF.trans hs) fun H2 hs2 => ⟨_, rfl, fun he => ⟨_, rfl, hs.trans hs2, .inr ⟨i, _, rfl, hy, he, hno⟩⟩, fun he => ?_⟩⟩
    rw [Rnd.wrapS (by omega) (by omega)]
    refine ⟨⟨by omega, by omega, hs.trans hs2, ?_⟩, ⟨by simp only; omega⟩⟩
    rw [show ((i : Int) + 1).toNat = i + 1 by omega, List.take_add_one, hy, List.any_append, hno]
    simp [he]
  · have : ¬ i < n := by simpa using hi
    rw [List.take_of_length_le (by omega)] at hno
    exact ⟨_, rfl, hs, .inl ⟨rfl, hno⟩⟩
theorem delI_own {F H : PHeap} {oa : Option Addr} {n c : Nat} {l : List Int} {f : Value} {p : Int → Bool} (hF : Sub F H) (ho : Off F oa) (how : OwnL H 3 iE 1 oa n c l) (hn : n ≤ 100000) (hf : Rnd.Tells F f vI p) :
    Triple Tryz.prog 137 #[.slice oa n c, f] H fun v H' => ∃ m, v = .slice oa m c ∧ OwnL H' 3 iE 1 oa m c (l.filter fun x => !p x) ∧ Sub F H' := by
  have hrd := how.rd (E := iE) (sz := 1) (by omega) Rnd.iLen
  have hll := hrd.len
  have hcap := how.le
  refine delI.vc oa n c f H _ ((idxFI_ok hF hrd hn hf).mono ?_)
  rintro _ H1 ⟨i, rfl, hs1, hor⟩
  have how1 : OwnL H1 3 iE 1 oa n c l := Owns.mono how fun a o _ hb => hs1.le _ _ hb
  rcases hor with ⟨rfl, hno⟩ | ⟨j, x, rfl, hx, hp, hno⟩
  · refine ⟨_, rfl, fun _ => ⟨n, rfl, ?_, hF.trans hs1⟩, fun h => by simp at h⟩
    rw [Rnd.filter_none hno]
    exact how1
  · have hjn : j < n := by rw [← hll]; exact (List.getElem?_eq_some_iff.1 hx).1
    refine ⟨_, rfl, fun h => by simp at h, fun _ => ?_⟩
    refine ⟨fun t H' => match t with | [.int _ i, .int _ q] => 0 ≤ i ∧ i < q ∧ q ≤ n ∧ Sub F H' ∧ ∃ l' : List Int, OwnL H' 3 iE 1 oa n c l' ∧ l'.take i.toNat = (l.take q.toNat).filter (fun x => !p x) ∧ l'.drop q.toNat = l.drop q.toNat | _ => False, fun t _ => match t with | [_, .int _ q] => (n - q).toNat | _ => 0, ?_, ?_⟩
    · rw [Rnd.wrapS (by omega) (by omega)]
      refine ⟨by omega, by omega, by omega, hF.trans hs1, l, how1, ?_, rfl⟩
      rw [Int.toNat_natCast, show ((j : Int) + 1).toNat = j + 1 by omega, List.take_add_one, hx, List.filter_append, Rnd.filter_none hno]
      simp [hp]
    · rintro i q H2 ⟨i0, i1, i2, hs2, l', how2, ht, hd⟩
      obtain ⟨i, rfl⟩ : ∃ j : Nat, i = j := ⟨i.toNat, by omega⟩
      obtain ⟨q, rfl⟩ : ∃ j : Nat, q = j := ⟨q.toNat, by omega⟩
      rw [Int.toNat_natCast, Int.toNat_natCast] at ht
      rw [Int.toNat_natCast] at hd
      have hrd2 := how2.rd (E := iE) (sz := 1) (by omega) Rnd.iLen
      have hll2 := hrd2.len
      refine ⟨fun hi => ?_, fun hi => ?_⟩
      · have hq' : q < n := by simpa using hi
        obtain ⟨y, hy, hyr⟩ := hrd2.ex (i := (q : Int)) (by omega) (by omega)
        rw [Int.toNat_natCast] at hy
        have hyl : l[q]? = some y := by
          have h1 : (l'.drop q)[0]? = (l.drop q)[0]? := by rw [hd]
          rw [List.getElem?_drop, List.getElem?_drop, Nat.add_zero, hy] at h1
          exact h1.symm
        have htk : l.take (q + 1) = l.take q ++ [y] := by rw [List.take_add_one, hyl]; rfl
        have hdr : l'.drop (q + 1) = l.drop (q + 1) := by rw [← List.drop_drop, hd, List.drop_drop]
        have ew1 : IntKind.i64.wrap ((q : Int) + 1) = (q : Int) + 1 := Rnd.wrapS (by omega) (by omega)
        have ew2 : IntKind.i64.wrap ((i : Int) + 1) = (i : Int) + 1 := Rnd.wrapS (by omega) (by omega)
        rw [ew1, ew2]
        refine ⟨hrd2.ob (by omega) (by omega), y, hyr, hf H2 y _ hs2 fun H3 hs3 => ⟨_, rfl, fun he => ?_, fun he => ?_⟩⟩
        · have how3 : OwnL H3 3 iE 1 oa n c l' := Owns.mono how2 fun a o _ hb => hs3.le _ _ hb
          obtain ⟨H4, hw, how4, hf4⟩ := Owns.set Rnd.iLen how3 (by omega) (i := (i : Int)) (by omega) (by omega) y
          rw [Int.toNat_natCast] at how4
          refine ⟨hrd2.ob (by omega) (by omega), H4, hw, ⟨by omega, by omega, by omega, hf4.sub (hs2.trans hs3) ho, _, how4, ?_, ?_⟩, ⟨by simp only; omega⟩⟩
          · rw [show ((i : Int) + 1).toNat = i + 1 by omega, show ((q : Int) + 1).toNat = q + 1 by omega, htk, List.filter_append, ← ht, List.take_add_one, List.getElem?_set_self (by omega), List.take_set_of_le (Nat.le_refl _)]
            have : p y = false := by simpa using he
            simp [this]
          · rw [show ((q : Int) + 1).toNat = q + 1 by omega, ← hdr, List.drop_set_of_lt (by omega)]
        · refine ⟨⟨by omega, by omega, by omega, hs2.trans hs3, l', Owns.mono how2 fun a o _ hb => hs3.le _ _ hb, ?_, ?_⟩, ⟨by simp only; omega⟩⟩
          · rw [Int.toNat_natCast, show ((q : Int) + 1).toNat = q + 1 by omega, htk, List.filter_append, ← ht]
            have : p y = true := by simpa using he
            simp [this]
          · rw [show ((q : Int) + 1).toNat = q + 1 by omega]; exact hdr
      · have hqn : q = n := by
          have : ¬ q < n := by simpa using hi
          omega
        subst hqn
        have hone : oa ≠ none := hrd2.ne (i := 0) (by omega) (by omega)
        obtain ⟨H3, hw, how3, hf3⟩ := how2.put (p := i) (ys := (List.replicate (q - i) (0 : Int)).flatMap iE) (by rw [length_flatMap Rnd.iLen, List.length_replicate]; omega) hone
        refine ⟨⟨by omega, by omega, by omega⟩, ?_⟩
        simp only [Int.toNat_natCast, Int.toNat_zero, Nat.sub_zero, slA_zero]
        rw [slA_pos (show (i : Int) ≠ c by omega)]
        refine clear_rw Rnd.tI (E := iE) (Z := (0 : Int)) zI (Rnd.iOne 0) (fun e => absurd e (hrd2.elem_ne (by omega) (by omega))) (.inr hw) ?_
        refine ⟨⟨by omega, by omega, by omega⟩, i, rfl, ?_, hf3.sub hs2 ho⟩
        have h5 := how3.cut (m := i) (by omega)
        rw [List.append_assoc, List.take_append_of_le_length (by rw [List.length_take, length_flatMap Rnd.iLen, hll2]; omega), List.take_take, Nat.min_self] at h5
        have e1 : (l'.flatMap iE).take (i * 1) = (l'.take i).flatMap iE := by
          conv => lhs; rw [← List.take_append_drop i l', List.flatMap_append]
          rw [List.take_left' (by rw [length_flatMap Rnd.iLen, List.length_take]; omega)]
        rw [e1, ht, List.take_of_length_le (by omega)] at h5
        exact h5
def isP (p : Plan) (i : Int) : Bool := p.ok && decide (1 ≤ i ∧ i ≤ p.n)
theorem is_ok (p : Plan) (i : Int) : Pure Tryz.prog 95 #[p.v, vI i] (.bool (isP p i)) := fun H => by
  refine planIs.vc p.n p.t p.l p.w p.s p.r i H _ ((right_ok p).use ⟨_, rfl, fun e => (in_ok i 1 p.n).use ⟨_, rfl, ?_, rfl⟩, fun e => ⟨?_, rfl⟩⟩)
  · unfold isP; rw [e]; rfl
  · unfold isP; rw [show p.ok = false by simpa using e]; rfl
theorem need_ok (H : PHeap) (p : Plan) : Triple Tryz.prog 98 #[p.v] H fun v H' => v = vI (if p.ok then p.t + p.l else 0) ∧ Sub H H' := by
  refine planNeed.vc p.n p.t p.l p.w p.s p.r H _ fun k7 hk7 => ?_
  have hs := Sub.upd (.cells #[vI p.n, vI p.t, vI p.l, vI p.w, vI p.s, vI p.r] 23 (0, 0)) hk7
  have hb := Bx.new H k7 23 [vI p.n, vI p.t, vI p.l, vI p.w, vI p.s, vI p.r]
  refine ⟨p.n, p.t, p.l, p.w, p.s, p.r, hb.reads, planOfI.vc p.n p.t p.l p.w p.s p.r _ _ _ ((right_ok p).use ⟨_, rfl, fun e => ⟨_, rfl, ?_, hs⟩, fun e => CallY.fn (by kernel_rfl) (planNeed1.vc (at0 k7) _ _ ⟨obP k7, p.t, hb.fld rfl, obP k7, p.l, hb.fld rfl, _, rfl, _, rfl, ?_, hs⟩)⟩)⟩
  · have : p.ok = false := by simpa using e
    rw [this]; rfl
  · have h : p.ok = true := by simpa using e
    have hp := Plan.ok_iff.1 h
    have := hp.t1; have := hp.t2; have := hp.l1; have := hp.l2
    rw [h, if_pos rfl, wrap64 (n := p.t + p.l) (by omega) (by omega)]
/-- The holders that are custodians, but one. -/
def thoseL (p : Plan) (h : List Int) (i : Int) : List Int := (ids p).filter fun j => decide (j ∈ h) && decide (j ≠ i)
def helpL (p : Plan) (h : List Int) (i : Int) : Option (List Int) := if isP p i && decide (p.t + p.l ≤ (thoseL p h i).length) then some ((thoseL p h i).take (p.t + p.l).toNat) else none
def targL (p : Plan) (h : List Int) : List Int := (ids p).filter fun j => !decide (j ∈ h)
theorem idsN_asc : ∀ n, Asc (idsN n)
  | 0 => List.Pairwise.nil
  | n + 1 => by
    rw [idsN_succ]
    refine List.pairwise_append.2 ⟨idsN_asc n, by simp, fun a ha b hb => ?_⟩
    obtain ⟨j, hj, rfl⟩ := List.mem_map.1 ha
    rw [List.mem_range] at hj
    simp at hb
    omega
theorem ids_asc (p : Plan) : Asc (ids p) := idsN_asc _
theorem mem_ids {p : Plan} {i : Int} : i ∈ ids p ↔ 1 ≤ i ∧ i ≤ p.n := by
  constructor
  · intro h
    have := ids_mem h
    omega
  · intro ⟨h1, h2⟩
    exact List.mem_map.2 ⟨i.toNat - 1, by rw [List.mem_range]; omega, by omega⟩
theorem asc_filter {l : List Int} (h : Asc l) (q : Int → Bool) : Asc (l.filter q) := List.Pairwise.filter _ h
theorem those_eq {p : Plan} (hp : p.ok = true) (h : List Int) (i : Int) : (restL h [i]).filter (fun j => !(!isP p j)) = thoseL p h i := by
  refine asc_ext (asc_filter (restL_spec h [i]).1 _) (asc_filter (ids_asc p) _) fun x => ?_
  unfold thoseL isP
  rw [List.mem_filter, List.mem_filter, (restL_spec h [i]).2, mem_ids]
  simp [hp]
  constructor
  · rintro ⟨⟨a, b⟩, c⟩; exact ⟨c, a, b⟩
  · rintro ⟨c, a, b⟩; exact ⟨⟨a, b⟩, c⟩
theorem ids_len' {p : Plan} (hp : p.ok = true) : (ids p).length ≤ 256 := by rw [ids_len]; exact pn_le hp
theorem those_len (p : Plan) (h : List Int) (i : Int) : (thoseL p h i).length ≤ (ids p).length := List.length_filter_le ..
theorem targ_len (p : Plan) (h : List Int) : (targL p h).length ≤ (ids p).length := List.length_filter_le ..
/-- Who helps: a slice of its own, that is full. -/
abbrev GivesH (r : Option (List Int)) (H : PHeap) (v : Value) (H' : PHeap) : Prop := ∃ b m ok, v = .tuple #[.slice b m m, .bool ok] ∧ ok = r.isSome ∧ RdL H' iE 1 b m (r.getD []) ∧ Sub H H' ∧ Off H b ∧ (ok = true → b ≠ none)
theorem helpers_ok {H : PHeap} {p : Plan} {oa : Option Addr} {n c : Nat} {h : List Int} {i : Int} (hp : p.ok = true) (hl : RdL H iE 1 oa n h) (hn : n ≤ 100000) :
    Triple Tryz.prog 58 #[p.v, .slice oa n c, vI i] H (GivesH (helpL p h i) H) := by
  have pok := Plan.ok_iff.1 hp
  refine cHelpers.vc p.n p.t p.l p.w p.s p.r oa n c i H _ ((is_ok p i).use ⟨_, rfl, fun e => ?_, fun e => ⟨H, Sub.refl _, ?_⟩⟩)
  · have e' : isP p i = false := by simpa using e
    have : helpL p h i = none := by unfold helpL; rw [e']; rfl
    rw [this]
    exact ⟨none, 0, false, rfl, rfl, RdL.nil _ _ _, Sub.refl _, Off.none _, fun e => by cases e⟩
  · have e' : isP p i = true := by simpa using e
    refine cThose.vc p.n p.t p.l p.w p.s p.r oa n c i H _ fun k11 hk11 k12 hk12 => ?_
    have s11 := Sub.upd (.cells #[vI p.n, vI p.t, vI p.l, vI p.w, vI p.s, vI p.r] 23 (0, 0)) hk11
    have b11 := Bx.new H k11 23 [vI p.n, vI p.t, vI p.l, vI p.w, vI p.s, vI p.r]
    have s12 := Sub.upd (.cells #[vI i] 3 (0, 0)) hk12
    have b12 := Bx.new (H.upd k11 (.cells #[vI p.n, vI p.t, vI p.l, vI p.w, vI p.s, vI p.r] 23 (0, 0))) k12 3 (([i] : List Int).flatMap iE)
    have b11' := b11.sub s12
    refine (rest_ok (w := [i]) ((hl.mono s11).mono s12) (Bx.rd (E := iE) (l := [i]) Rnd.iLen b12) hn (by simp)).mono ?_
    rintro _ H14 ⟨a15, k16, k17, rfl, o15, s14, f15⟩
    have hF := f15.sub (Sub.refl _)
    have hr := o15.rd (E := iE) (sz := 1) (by omega) Rnd.iLen
    have hk := hr.len
    have hle := restL_len h [i]
    have hhl := hl.len
    refine ⟨a15, k16, k17, rfl, (delI_own (p := fun j => !isP p j) s14 f15 o15 (by omega) fun G x Q hs hQ => CallY.fn (by kernel_rfl) (cThose1.vc x (at0 k11) _ _ ⟨_, _, _, _, _, _, (b11'.sub hs).reads, (is_ok p x).use ⟨_, rfl, hQ _ (Sub.refl _)⟩⟩)).mono ?_⟩
    rintro _ H19 ⟨m, rfl, o19, s19⟩
    have hss := (s11.trans s12).trans s19
    rw [those_eq hp] at o19
    have r19 := o19.rd (E := iE) (sz := 1) (by omega) Rnd.iLen
    have hml := r19.len
    refine ⟨_, _, _, rfl, _, _, _, rfl, hss, (need_ok _ p).mono ?_⟩
    rintro _ H21 ⟨rfl, s21⟩
    rw [hp, if_pos rfl]
    have t1 := pok.t1; have l1 := pok.l1; have t2 := pok.t2; have l2 := pok.l2
    have hcap := o19.le
    refine ⟨_, rfl, cFirst.vc a15 m k17 (p.t + p.l) _ _ ⟨fun e1 => ?_, fun e1 => ⟨⟨by omega, by omega, by omega, ?_⟩, ?_⟩⟩⟩
    · have hlt : ¬ p.t + p.l ≤ ((thoseL p h i).length : Int) := by
        by_cases h1 : p.t + p.l < 1
        · omega
        · simp [h1] at e1; omega
      have : helpL p h i = none := by unfold helpL; rw [e', decide_eq_false hlt]; rfl
      rw [this]
      exact ⟨_, _, _, _, rfl, none, 0, false, rfl, rfl, RdL.nil _ _ _, hss.trans s21, Off.none _, fun e => by cases e⟩
    · by_cases h1 : p.t + p.l < 1
      · omega
      · simp [h1] at e1; omega
    · have hge : p.t + p.l ≤ ((thoseL p h i).length : Int) := by
        by_cases h1 : p.t + p.l < 1
        · omega
        · simp [h1] at e1; omega
      have : helpL p h i = some ((thoseL p h i).take (p.t + p.l).toNat) := by unfold helpL; rw [e', decide_eq_true hge]; rfl
      rw [this]
      have r21 := (r19.mono s21).take (i := (p.t + p.l).toNat) (by omega)
      rw [slA_zero]
      refine ⟨_, _, _, _, rfl, a15, (p.t + p.l).toNat - Int.toNat 0, true, rfl, rfl, ?_, hss.trans s21, f15.sub (s11.trans s12), fun _ => ?_⟩
      · simpa using r21
      · exact r21.ne (i := 0) (by omega) (by omega)
theorem targets_ok {H : PHeap} {p : Plan} {oa : Option Addr} {n c : Nat} {h : List Int} (hp : p.ok = true) (hl : RdL H iE 1 oa n h) (hn : n ≤ 100000) :
    Triple Tryz.prog 156 #[p.v, .slice oa n c] H (GivesI (targL p h) H) := by
  refine cTargets.vc p.n p.t p.l p.w p.s p.r oa n c H _ ((planAll_ok hp).mono ?_)
  rintro _ H11 ⟨a, m, q, rfl, o, hs, f⟩
  have hr := o.rd (E := iE) (sz := 1) (by omega) Rnd.iLen
  have hml := hr.len
  have := ids_len' hp
  refine ⟨a, m, q, rfl, (rest_ok (l := ids p) (w := h) hr (hl.mono hs) (by omega) hn).mono ?_⟩
  rintro _ H16 ⟨b, k, d, rfl, o2, s2, f2⟩
  have e : restL (ids p) h = targL p h := asc_ext (restL_spec _ _).1 (asc_filter (ids_asc p) _) fun x => by
    rw [(restL_spec _ _).2]; unfold targL; rw [List.mem_filter]; simp
  rw [e] at o2
  exact ⟨b, k, d, rfl, b, k, d, rfl, o2, hs.trans s2, f2.sub hs⟩
end Go.Cho
namespace Go.Cho
open Go.Vx Go.Vc Go.Proofs Go.Pln Go.Stl Go.Agr
open Go.Hp (rest_ok restL restL_spec restL_len Asc asc_ext has_ok refRest_ok)
open Go.Rnd (takesG insG froms againG OkM AscG)
def toldM (m : Rnd.Msg) : Bool := kind_ m == 14
def someM (m : Rnd.Msg) : Bool := what_ m != 0
def goneL (p : Plan) (L : List Rnd.Msg) : Bool := p.ok && decide (p.n ≤ (cntM toldM L : Int)) && decide (0 < cntM (fun m => toldM m && someM m) L)
theorem sGone_ok {H : PHeap} {p : Plan} {oa : Option Addr} {n c : Nat} {L : List Rnd.Msg} (hl : RdL H mE 13 oa n L) (hn : n ≤ 100000) :
    Triple Tryz.prog 157 #[p.v, .slice oa n c] H fun v H' => v = .bool (goneL p L) ∧ Sub H H' := by
  have c1 : ∀ (x : Rnd.Msg) (G : PHeap) (Q : Value → PHeap → Prop), Q (.bool (toldM x)) G → CallY Tryz.prog (.func (Fn.func 179) #[] #[]) #[Stl.vM x] G Q := fun x G Q h => by
    obtain ⟨y1, y2, y3, y4, y5, y6, y7, y8, y9, y10, ⟨ya, yb, yc, yl⟩, ⟨za, zb, zc, zl⟩, ⟨wa, wb, wc, wl⟩⟩ := x
    exact CallY.fn (by kernel_rfl) (sGone1.vc y1 y2 y3 y4 y5 y6 y7 y8 y9 y10 ya yb yc za zb zc wa wb wc G Q h)
  have c2 : ∀ (x : Rnd.Msg) (G : PHeap) (Q : Value → PHeap → Prop), Q (.bool (someM x)) G → CallY Tryz.prog (.func (Fn.func 180) #[] #[]) #[Stl.vM x] G Q := fun x G Q h => by
    obtain ⟨y1, y2, y3, y4, y5, y6, y7, y8, y9, y10, ⟨ya, yb, yc, yl⟩, ⟨za, zb, zc, zl⟩, ⟨wa, wb, wc, wl⟩⟩ := x
    exact CallY.fn (by kernel_rfl) (sGone2.vc y1 y2 y3 y4 y5 y6 y7 y8 y9 y10 ya yb yc za zb zc wa wb wc G Q h)
  refine sGone.vc p.n p.t p.l p.w p.s p.r oa n c H _ ⟨H, Sub.refl _, (right_ok p).use ⟨_, rfl, Sub.refl _, fun e k14 hk14 => ?_, fun e => ⟨?_, Sub.refl _⟩⟩⟩
  · have s14 := Sub.upd (.cells #[Value.func (Fn.func 179) #[] #[]] 91 (0, 0)) hk14
    have f14 := fsRd (Bx.new H k14 91 [Value.func (Fn.func 179) #[] #[]])
    refine ⟨s14, (count_ok (ps := [toldM]) (hl.mono s14) f14 rfl hn (by simp) fun i f q h1 h2 x _ Q hQ => ?_).mono ?_⟩
    · match i, h1, h2 with
      | 0, h1, h2 => simp at h1 h2; subst h1 h2; exact c1 x _ Q hQ
      | i + 1, h1, h2 => simp at h1
    rintro _ H16 ⟨rfl, hH⟩
    rw [hH]
    have e1 : cntM (fun x => [toldM].all fun p => p x) L = cntM toldM L := by unfold cntM; congr 1; exact List.filter_congr fun x _ => by simp
    rw [e1]
    refine ⟨_, rfl, s14, fun e2 k18 hk18 => ?_, fun e2 => ⟨?_, s14⟩⟩
    · have s18 := Sub.upd (.cells #[Value.func (Fn.func 179) #[] #[], Value.func (Fn.func 180) #[] #[]] 91 (0, 0)) hk18
      have f18 := fsRd (Bx.new (H.upd k14 (.cells #[Value.func (Fn.func 179) #[] #[]] 91 (0, 0))) k18 91 [Value.func (Fn.func 179) #[] #[], Value.func (Fn.func 180) #[] #[]])
      refine (count_ok (ps := [toldM, someM]) ((hl.mono s14).mono s18) f18 rfl hn (by simp) fun i f q h1 h2 x _ Q hQ => ?_).mono ?_
      · match i, h1, h2 with
        | 0, h1, h2 => simp at h1 h2; subst h1 h2; exact c1 x _ Q hQ
        | 1, h1, h2 => simp at h1 h2; subst h1 h2; exact c2 x _ Q hQ
        | i + 2, h1, h2 => simp at h1
      rintro _ H20 ⟨rfl, hH⟩
      rw [hH]
      have e3 : cntM (fun x => [toldM, someM].all fun p => p x) L = cntM (fun m => toldM m && someM m) L := by unfold cntM; congr 1; exact List.filter_congr fun x _ => by simp
      rw [e3]
      refine ⟨_, rfl, ?_, s14.trans s18⟩
      have hge : p.n ≤ (cntM toldM L : Int) := by simpa using e2
      unfold goneL
      rw [e, decide_eq_true hge]
      simp
    · have hge : ¬ p.n ≤ (cntM toldM L : Int) := by simpa using e2
      unfold goneL
      rw [decide_eq_false hge]
      simp
  · have e' : p.ok = false := by simpa using e
    unfold goneL
    rw [e']; rfl
end Go.Cho
namespace Go.Cho
open Go.Vx Go.Vc Go.Proofs Go.Pln Go.Stl Go.Agr
open Go.Hp (rest_ok restL restL_spec restL_len Asc asc_ext has_ok refRest_ok)
open Go.Rnd (takesG insG froms againG OkM AscG)
open Go.Page (limL namesL susL cntL sumN names_ noS)
abbrev Msg := Rnd.Msg
structure Ch where
  k : Int
  nm : ByteArray
  tg : Int
structure TS where
  p : Plan
  ballot : Int
  c : Ch
  at_ : Int
  A : Agr.St
  asks : List Msg
  wait : List Int
  G : List Msg
  tries : Int
  askN : ByteArray
  askW : List Int
  pn : List ByteArray
  after : ByteArray
  ps : List Int
  names : List ByteArray
  sus : List Int
  chores : List Ch
/-- A list without its place. -/
def bareS {α : Type} (l : List α) : Sl α := ⟨none, l.length, 0, l⟩
/-- A message without the places of its lists. -/
def strip (m : Msg) : Msg := (m.1, m.2.1, m.2.2.1, m.2.2.2.1, m.2.2.2.2.1, m.2.2.2.2.2.1, m.2.2.2.2.2.2.1, m.2.2.2.2.2.2.2.1, m.2.2.2.2.2.2.2.2.1, m.2.2.2.2.2.2.2.2.2.1, bareS m.2.2.2.2.2.2.2.2.2.2.1.l, bareS m.2.2.2.2.2.2.2.2.2.2.2.1.l, bareS m.2.2.2.2.2.2.2.2.2.2.2.2.l)
abbrev no3 : Sl Int × Sl ByteArray × Sl Int := (⟨none, 0, 0, []⟩, ⟨none, 0, 0, []⟩, ⟨none, 0, 0, []⟩)
def mNames (after : ByteArray) : Msg := (6, 0, 0, 0, after, 0, 0, 0, 0, 0, no3)
def mJoin : Msg := (7, 0, 0, 0, ⟨#[]⟩, 0, 0, 0, 0, 0, no3)
def mPurge (nm : ByteArray) : Msg := (8, 0, 0, 0, nm, 0, 0, 0, 0, 0, no3)
def mHelp (nm : ByteArray) (v : Val) (tg : Int) (who : Sl Int) : Msg := (10, 0, 0, 0, nm, v.at_, v.ep, tg, v.sz, 0, who, ⟨none, 0, 0, []⟩, ⟨none, 0, 0, []⟩)
def sendL (b : Int) (m : Msg) (to : List Int) : List Msg := to.map fun i => (m.1, m.2.1, i, b, m.2.2.2.2)
def TS.over (t : TS) : TS := { t with at_ := 0 }
def TS.agree (t : TS) (nm : ByteArray) (force : Bool) (at' : Int) : TS × List Msg :=
  ({ t with A := ((init0 t.p t.ballot nm force false (IntKind.i64.wrap (2 * t.ballot))).ask mask).1, at_ := at' }, ((init0 t.p t.ballot nm force false (IntKind.i64.wrap (2 * t.ballot))).ask mask).2)
def TS.round (t : TS) (at' : Int) (m : Msg) (to wait : List Int) : TS × List Msg :=
  ({ t with at_ := at', asks := sendL t.ballot m to, wait := wait, G := [], tries := maxI t.p.r 0, askN := m.2.2.2.2.1, askW := m.2.2.2.2.2.2.2.2.2.2.1.l }, sendL t.ballot m to)
def TS.name (t : TS) : TS × List Msg :=
  match t.names with
  | nm :: _ => t.agree nm (!t.ps.isEmpty) 2
  | [] => if t.sus.isEmpty then (t.over, []) else t.round 3 mJoin t.sus t.sus
def newC (p : Plan) (nm : ByteArray) (A : Agr.St) : List Ch :=
  if A.value.pr then ((targL p A.holders).filter fun i => (helpL p A.holders i).isSome).map fun i => ⟨2, nm, i⟩
  else if goneL p A.said then [⟨3, nm, 0⟩] else []
def TS.behind (t : TS) : TS := { t with names := t.names.tail, sus := if t.A.fixed then t.sus.filter (fun i => decide (i ∈ t.A.acks)) else t.sus, chores := t.chores ++ newC t.p (t.names.headD noS) t.A }
def TS.named (t : TS) : TS × List Msg := t.behind.name
def TS.mend (t : TS) : TS × List Msg :=
  if t.A.value.pr && (helpL t.p t.A.holders t.c.tg).isSome && !decide (t.c.tg ∈ t.A.holders) then
    t.round 5 (mHelp t.c.nm t.A.value t.c.tg (bareS ((helpL t.p t.A.holders t.c.tg).getD []))) (restL ((helpL t.p t.A.holders t.c.tg).getD [] ++ [t.c.tg]) []) [t.c.tg]
  else (t.over, [])
def TS.purge (t : TS) : TS × List Msg :=
  if t.A.value.pr || decide ((t.A.acks.length : Int) < t.p.n) then (t.over, []) else t.round 7 (mPurge t.c.nm) (ids t.p) (ids t.p)
def TS.answered (t : TS) : TS × List Msg := if allG t.wait t.G then (t.over, []) else (t, [])
def listL (G : List Msg) : List Msg := G.filter fun m => kind_ m == 20
def enoughB (t : TS) : Bool := t.p.ok && decide ((cntL t.G : Int) ≥ t.p.n - t.p.w + 1)
def TS.turned (t : TS) : TS := { t with pn := namesL (limL (listL t.G)) t.pn (listL t.G), after := if (limL (listL t.G)).1 then t.after else (limL (listL t.G)).2, ps := susL t.ps (listL t.G) }
def TS.listed (t : TS) : TS × List Msg :=
  if enoughB t then
    if (limL (listL t.G)).1 then TS.name { t.turned with names := t.turned.pn, sus := t.turned.ps }
    else t.turned.round 1 (mNames t.turned.after) (ids t.p) (ids t.p)
  else t.answered
def TS.next (t : TS) : TS × List Msg :=
  if t.at_ = 1 then t.listed else if t.at_ = 2 then t.named else if t.at_ = 4 then t.mend else if t.at_ = 6 then t.purge else t.answered
def TS.goes (t : TS) (r : Agr.St × List Msg) : TS × List Msg :=
  if r.1.over then (if r.1.ok then TS.next { t with A := r.1 } else (TS.over { t with A := r.1 }, [])) else ({ t with A := r.1 }, r.2)
def TS.agrees (t : TS) : Bool := t.at_ == 2 || t.at_ == 4 || t.at_ == 6
def TS.takes (t : TS) (m : Msg) : Bool :=
  m.2.2.2.1 == t.ballot && eqS m.2.2.2.2.1 t.askN &&
    (if t.at_ = 1 then kind_ m == 20 else if t.at_ = 3 then kind_ m == 21 else if t.at_ = 5 then kind_ m == 25 else kind_ m == 22 || (kind_ m == 19 && what_ m == 8))
def TS.refuses (t : TS) (m : Msg) : Bool :=
  t.at_ == 5 && (kind_ m == 16 || kind_ m == 19 || kind_ m == 24) && what_ m == 10 && m.2.2.2.1 == t.ballot && eqS m.2.2.2.2.1 t.askN && (decide (from_ m ∈ t.askW) || from_ m == t.c.tg)
def TS.got (t : TS) (m : Msg) : TS := { t with G := insG t.G m }
def TS.take (t : TS) (m : Msg) : TS × List Msg :=
  if t.at_ = 0 then (t, []) else if t.agrees then t.goes (t.A.take m) else if t.refuses m then (t.over, [])
  else if t.takes m && takesG t.wait t.G m then (if allG t.wait (insG t.G m) then (t.got m).next else (t.got m, [])) else (t, [])
def TS.told (t : TS) : Bool := (t.at_ == 1 && enoughB t) || allG t.wait t.G
def TS.late (t : TS) : TS × List Msg := if t.tries = 0 then (t.over, []) else ({ t with tries := IntKind.i64.wrap (t.tries - 1) }, againG t.asks t.G)
def TS.tick (t : TS) : TS × List Msg :=
  if t.at_ = 0 then (t, []) else if t.agrees then t.goes t.A.tick else if t.told then t.next else t.late
def start0 (p : Plan) (b : Int) (c : Ch) : TS := ⟨p, b, c, 0, init0 p b ⟨#[]⟩ false false 0, [], [], [], 0, ⟨#[]⟩, [], [], noS, [], [], [], []⟩
def start (p : Plan) (b : Int) (c : Ch) (nameOk : Bool) : TS × List Msg :=
  if !p.ok || (c.k != 1 && !nameOk) then (start0 p b c, [])
  else if c.k = 1 then (start0 p b c).round 1 (mNames noS) (ids p) (ids p)
  else if c.k = 2 then (start0 p b c).agree c.nm true 4
  else if c.k = 3 then (start0 p b c).agree c.nm true 6
  else (start0 p b c, [])
/-- What came: its lists are read, and they are short. -/
structure OkC (F : PHeap) (m : Msg) : Prop where
  ok : OkM F m
  nm : (names_ m).n ≤ 100
theorem OkC.mono {F F' : PHeap} {m : Msg} (h : OkC F m) (hs : Sub F F') : OkC F' m := ⟨h.ok.mono hs, h.nm⟩
theorem OkC.p {F : PHeap} {m : Msg} (h : OkC F m) : Page.OkP F m := ⟨h.ok.who, h.ok.names, by have := h.nm; show (names_ m).n ≤ 300; omega⟩
structure Core (t : TS) : Prop where
  win : ∀ i ∈ t.wait, i ∈ ids t.p
  wl : t.wait.length ≤ 256
  gin : ∀ m ∈ t.G, from_ m ∈ t.wait
  asc : AscG t.G
  psa : Asc t.ps
  psi : ∀ i ∈ t.ps, i ∈ ids t.p
  sua : Asc t.sus
  sui : ∀ i ∈ t.sus, i ∈ ids t.p
  aw : t.askW.length ≤ 256
  al : t.asks.length ≤ 256
  ast : t.asks.map strip = t.asks
structure Iv (b : Nat) (t : TS) : Prop where
  core : Core t
  pok : t.at_ ≠ 0 → t.p.ok = true
  at1 : t.at_ ≠ 1 → t.chores.length + 256 * t.names.length ≤ 256 * b
  at1' : t.at_ = 1 → t.chores = [] ∧ t.names = [] ∧ t.pn.length + sumN t.G ≤ b
  at2 : t.at_ = 2 → t.names ≠ []
  ap : t.agrees = true → t.A.p = t.p ∧ t.A.over = false ∧ Sml t.A
  rng : 0 ≤ t.at_ ∧ t.at_ ≤ 7
/-- What a step leaves and says. -/
structure IvR (b : Nat) (r : TS × List Msg) : Prop where
  iv : Iv b r.1
  len : r.2.length ≤ 1000
  str : r.2.map strip = r.2
theorem asc_ids {p : Plan} (hp : p.ok = true) {l : List Int} (ha : Asc l) (hi : ∀ i ∈ l, i ∈ ids p) : l.length ≤ 256 := by
  have pok := Plan.ok_iff.1 hp
  have := pok.n1
  have := pok.n2
  have := asc_len l 0 p.n (by omega) ha fun x hx => ids_mem (hi x hx)
  omega
end Go.Cho
namespace Go.Cho
open Go.Vx Go.Vc Go.Proofs Go.Pln Go.Stl Go.Agr
open Go.Hp (rest_ok restL restL_spec restL_len Asc asc_ext has_ok refRest_ok)
open Go.Rnd (takesG insG froms againG OkM AscG)
open Go.Page (limL namesL susL susStep cntL sumN names_ noS stateL)
theorem strip_bare {m : Msg} (h : Bare m) : strip m = m := by
  obtain ⟨y1, y2, y3, y4, y5, y6, y7, y8, y9, y10, w, n, d⟩ := m
  obtain ⟨h1, h2, h3⟩ := h
  dsimp only at h1 h2 h3
  subst h1 h2 h3
  rfl
theorem strip_bares {l : List Msg} (h : ∀ m ∈ l, Bare m) : l.map strip = l := by
  conv => rhs; rw [← List.map_id l]
  exact List.map_congr_left fun m hm => strip_bare (h m hm)
theorem sendL_len (b : Int) (m : Msg) (to : List Int) : (sendL b m to).length = to.length := by unfold sendL; rw [List.length_map]
theorem strip_send (b : Int) (m : Msg) (to : List Int) : (sendL b m to).map strip = sendL b (strip m) to := by
  unfold sendL
  rw [List.map_map]
  rfl
theorem Core.core {t u : TS} (h : Core t) (e1 : u.p = t.p) (e2 : u.wait = t.wait) (e3 : u.G = t.G) (e4 : u.ps = t.ps) (e5 : u.sus = t.sus) (e6 : u.askW = t.askW) (e7 : u.asks = t.asks) : Core u := by
  refine ⟨?_, ?_, ?_, ?_, ?_, ?_, ?_, ?_, ?_, ?_, ?_⟩
  · rw [e1, e2]; exact h.win
  · rw [e2]; exact h.wl
  · rw [e2, e3]; exact h.gin
  · rw [e3]; exact h.asc
  · rw [e4]; exact h.psa
  · rw [e1, e4]; exact h.psi
  · rw [e5]; exact h.sua
  · rw [e1, e5]; exact h.sui
  · rw [e6]; exact h.aw
  · rw [e7]; exact h.al
  · rw [e7]; exact h.ast
theorem Iv.few {b : Nat} {t : TS} (h : Iv b t) : t.chores.length + 256 * t.names.length ≤ 256 * b := by
  by_cases e : t.at_ = 1
  · obtain ⟨h1, h2, _⟩ := h.at1' e
    rw [h1, h2]; simp
  · exact h.at1 e
theorem over_ok {b : Nat} {t : TS} (h : Core t) (hf : t.chores.length + 256 * t.names.length ≤ 256 * b) : IvR b (t.over, []) :=
  ⟨⟨h.core rfl rfl rfl rfl rfl rfl rfl, fun e => absurd rfl e, fun _ => hf, (fun e => by cases e), (fun e => by cases e), (fun e => by cases e), ⟨Int.le_refl _, by show (0 : Int) ≤ 7; omega⟩⟩, Nat.zero_le _, rfl⟩
theorem agree_ok {b : Nat} {t : TS} {nm : ByteArray} {force : Bool} {at' : Int} (h : Core t) (hp : t.p.ok = true) (hf : t.chores.length + 256 * t.names.length ≤ 256 * b) (ha : at' = 2 ∨ at' = 4 ∨ at' = 6) (h2 : at' = 2 → t.names ≠ []) : IvR b (t.agree nm force at') := by
  obtain ⟨s1, s2, s3⟩ := Sml.ask (s := init0 t.p t.ballot nm force false (IntKind.i64.wrap (2 * t.ballot))) (m := mask) hp (Nat.zero_le _) (Nat.zero_le _) (Nat.zero_le _) bare_ask
  refine ⟨⟨h.core rfl rfl rfl rfl rfl rfl rfl, fun _ => hp, fun _ => hf, fun e => ?_, h2, fun _ => ⟨rfl, rfl, s1⟩, ?_⟩, s3, strip_bares s2⟩
  · have : at' = 1 := e
    omega
  · show 0 ≤ at' ∧ at' ≤ 7
    omega
theorem round_ok {b : Nat} {t : TS} {at' : Int} {m : Msg} {to wait : List Int} (h : Core t) (hp : t.p.ok = true) (hf : t.chores.length + 256 * t.names.length ≤ 256 * b) (ha : at' = 1 ∨ at' = 3 ∨ at' = 5 ∨ at' = 7)
    (h1 : at' = 1 → t.chores = [] ∧ t.names = [] ∧ t.pn.length ≤ b) (ht : to.length ≤ 256) (hw : ∀ i ∈ wait, i ∈ ids t.p) (hl : wait.length ≤ 256) (hk : m.2.2.2.2.2.2.2.2.2.2.1.l.length ≤ 256) (hs : strip m = m) : IvR b (t.round at' m to wait) := by
  refine ⟨⟨⟨hw, hl, (fun m hm => by cases hm), List.Pairwise.nil, h.psa, h.psi, h.sua, h.sui, hk, ?_, ?_⟩, fun _ => hp, fun _ => hf, fun e => ?_, fun e => ?_, fun e => ?_, ?_⟩, ?_, ?_⟩
  · show (sendL t.ballot m to).length ≤ 256
    rw [sendL_len]; exact ht
  · show (sendL t.ballot m to).map strip = sendL t.ballot m to
    rw [strip_send, hs]
  · obtain ⟨g1, g2, g3⟩ := h1 e
    exact ⟨g1, g2, by show t.pn.length + 0 ≤ b; omega⟩
  · have : at' = 2 := e
    omega
  · have e' : (at' == 2 || at' == 4 || at' == 6) = true := e
    simp at e'
    omega
  · show 0 ≤ at' ∧ at' ≤ 7
    omega
  · show (sendL t.ballot m to).length ≤ 1000
    rw [sendL_len]; omega
  · show (sendL t.ballot m to).map strip = sendL t.ballot m to
    rw [strip_send, hs]
theorem name_ok {b : Nat} {t : TS} (h : Core t) (hp : t.p.ok = true) (hf : t.chores.length + 256 * t.names.length ≤ 256 * b) : IvR b t.name := by
  unfold TS.name
  split
  · rename_i nm r e
    exact agree_ok h hp hf (.inl rfl) fun _ => by rw [e]; simp
  · split
    · exact over_ok h hf
    · have := asc_ids hp h.sua h.sui
      exact round_ok h hp hf (.inr (.inl rfl)) (fun e => by omega) this h.sui this (Nat.zero_le _) rfl
theorem answered_ok {b : Nat} {t : TS} (h : Iv b t) : IvR b t.answered := by
  unfold TS.answered
  split
  · exact over_ok h.core h.few
  · exact ⟨h, Nat.zero_le _, rfl⟩
theorem newC_len {p : Plan} (hp : p.ok = true) (nm : ByteArray) (A : Agr.St) : (newC p nm A).length ≤ 256 := by
  unfold newC
  split
  · rw [List.length_map]
    exact Nat.le_trans (List.length_filter_le ..) (Nat.le_trans (targ_len p A.holders) (ids_len' hp))
  · split <;> simp
theorem named_ok {b : Nat} {t : TS} (h : Iv b t) (hp : t.p.ok = true) (hn : t.names ≠ []) : IvR b t.named := by
  unfold TS.named
  have hf := h.few
  have hl := newC_len hp (t.names.headD noS) t.A
  have hpos : 0 < t.names.length := List.length_pos_iff.2 hn
  refine name_ok ⟨h.core.win, h.core.wl, h.core.gin, h.core.asc, h.core.psa, h.core.psi, ?_, ?_, h.core.aw, h.core.al, h.core.ast⟩ hp ?_
  · show Asc (if t.A.fixed then t.sus.filter (fun i => decide (i ∈ t.A.acks)) else t.sus)
    split
    · exact asc_filter h.core.sua _
    · exact h.core.sua
  · show ∀ i ∈ (if t.A.fixed then t.sus.filter (fun i => decide (i ∈ t.A.acks)) else t.sus), i ∈ ids t.p
    split
    · exact fun i hi => h.core.sui i (List.mem_filter.1 hi).1
    · exact h.core.sui
  · show (t.chores ++ newC t.p (t.names.headD noS) t.A).length + 256 * t.names.tail.length ≤ 256 * b
    rw [List.length_append, List.length_tail]
    omega
theorem restL_le {p : Plan} (hp : p.ok = true) {l : List Int} (h : ∀ i ∈ l, i ∈ ids p) : (restL l []).length ≤ 256 := asc_ids hp (restL_spec l []).1 fun i hi => h i (((restL_spec l []).2 i).1 hi).1
theorem help_ids {p : Plan} {h : List Int} {i : Int} : ∀ j ∈ (helpL p h i).getD [], j ∈ ids p := by
  unfold helpL
  split
  · exact fun j hj => (List.mem_filter.1 (List.mem_of_mem_take hj)).1
  · exact fun j hj => by cases hj
theorem help_is {p : Plan} {h : List Int} {i : Int} (e : (helpL p h i).isSome = true) : i ∈ ids p := by
  unfold helpL at e
  split at e
  · rename_i hc
    have h1 : isP p i = true := ((Bool.and_eq_true _ _).mp hc).1
    unfold isP at h1
    simp at h1
    exact mem_ids.2 h1.2
  · cases e
theorem help_len {p : Plan} (hp : p.ok = true) (h : List Int) (i : Int) : ((helpL p h i).getD []).length ≤ 256 := by
  unfold helpL
  split
  · show ((thoseL p h i).take (p.t + p.l).toNat).length ≤ 256
    rw [List.length_take]
    have := those_len p h i
    have := ids_len' hp
    omega
  · exact Nat.zero_le _
theorem mend_ok {b : Nat} {t : TS} (h : Iv b t) (hp : t.p.ok = true) : IvR b t.mend := by
  unfold TS.mend
  split
  · rename_i hc
    have h2 : (helpL t.p t.A.holders t.c.tg).isSome = true := ((Bool.and_eq_true _ _).mp ((Bool.and_eq_true _ _).mp hc).1).2
    have hi := help_is h2
    refine round_ok h.core hp h.few (.inr (.inr (.inl rfl))) (fun e => by omega) (restL_le hp fun j hj => ?_) (fun i hi' => ?_) (by simp) (help_len hp _ _) rfl
    · rcases List.mem_append.1 hj with hj | hj
      · exact help_ids j hj
      · simp at hj; rw [hj]; exact hi
    · simp at hi'; rw [hi']; exact hi
  · exact over_ok h.core h.few
theorem purge_ok {b : Nat} {t : TS} (h : Iv b t) (hp : t.p.ok = true) : IvR b t.purge := by
  unfold TS.purge
  split
  · exact over_ok h.core h.few
  · exact round_ok h.core hp h.few (.inr (.inr (.inr rfl))) (fun e => by omega) (ids_len' hp) (fun i hi => hi) (ids_len' hp) (Nat.zero_le _) rfl
theorem sumN_filter (q : Msg → Bool) : ∀ L : List Msg, sumN (L.filter q) ≤ sumN L
  | [] => Nat.le_refl _
  | x :: xs => by
    have := sumN_filter q xs
    unfold sumN at this ⊢
    cases h : q x <;> simp [h] at this ⊢ <;> omega
theorem susL_asc : ∀ (L : List Msg) {S : List Int}, Asc S → Asc (susL S L)
  | [], S, h => h
  | x :: xs, S, h => by
    show Asc (susL (susStep S x) xs)
    refine susL_asc xs ?_
    unfold susStep
    split
    · exact (restL_spec _ _).1
    · exact h
theorem susL_in {P : Int → Prop} : ∀ (L : List Msg) {S : List Int}, (∀ i ∈ S, P i) → (∀ m ∈ L, P (from_ m)) → ∀ i ∈ susL S L, P i
  | [], S, h, _ => h
  | x :: xs, S, h, hL => by
    show ∀ i ∈ susL (susStep S x) xs, P i
    refine susL_in xs (fun i hi => ?_) fun m hm => hL m (by simp [hm])
    unfold susStep at hi
    split at hi
    · rcases List.mem_append.1 (((restL_spec _ _).2 i).1 hi).1 with h1 | h1
      · exact h i h1
      · simp at h1; rw [h1]; exact hL x (by simp)
    · exact h i hi
theorem turned_core {t : TS} (h : Core t) : Core t.turned :=
  ⟨h.win, h.wl, h.gin, h.asc, susL_asc _ h.psa, susL_in (listL t.G) h.psi fun m hm => h.win _ (h.gin m (List.mem_filter.1 hm).1), h.sua, h.sui, h.aw, h.al, h.ast⟩
theorem listed_okI {b : Nat} {t : TS} (h : Iv b t) (hp : t.p.ok = true) (e1 : t.at_ = 1) : IvR b t.listed := by
  obtain ⟨c0, n0, hb⟩ := h.at1' e1
  have hl := Page.namesL_len (limL (listL t.G)) t.pn (listL t.G)
  have hs : sumN (listL t.G) ≤ sumN t.G := sumN_filter _ _
  have hc := turned_core h.core
  have hpn : t.turned.pn.length ≤ b := by show (namesL (limL (listL t.G)) t.pn (listL t.G)).length ≤ b; omega
  unfold TS.listed
  split
  · split
    · refine name_ok ⟨hc.win, hc.wl, hc.gin, hc.asc, hc.psa, hc.psi, hc.psa, hc.psi, hc.aw, hc.al, hc.ast⟩ hp ?_
      show t.chores.length + 256 * t.turned.pn.length ≤ 256 * b
      rw [c0]; simp; omega
    · refine round_ok hc hp ?_ (.inl rfl) (fun _ => ⟨c0, n0, hpn⟩) (ids_len' hp) (fun i hi => hi) (ids_len' hp) (Nat.zero_le _) rfl
      show t.chores.length + 256 * t.names.length ≤ 256 * b
      rw [c0, n0]; simp
  · exact answered_ok h
theorem next_ok {b : Nat} {t : TS} (h : Iv b t) (hp : t.p.ok = true) : IvR b t.next := by
  unfold TS.next
  split
  · exact listed_okI h hp (by assumption)
  · split
    · exact named_ok h hp (h.at2 (by assumption))
    · split
      · exact mend_ok h hp
      · split
        · exact purge_ok h hp
        · exact answered_ok h
theorem IvR.mono {b c : Nat} {r : TS × List Msg} (h : IvR b r) (hb : b ≤ c) : IvR c r :=
  ⟨⟨h.iv.core, h.iv.pok, fun e => by have := h.iv.at1 e; omega, fun e => by obtain ⟨a, b', c'⟩ := h.iv.at1' e; exact ⟨a, b', by omega⟩, h.iv.at2, h.iv.ap, h.iv.rng⟩, h.len, h.str⟩
theorem agrees_at {t : TS} (h : t.agrees = true) : t.at_ = 2 ∨ t.at_ = 4 ∨ t.at_ = 6 := by
  unfold TS.agrees at h
  simp at h
  omega
theorem goes_ok {b : Nat} {t : TS} {r : Agr.St × List Msg} (h : Iv b t) (hg : t.agrees = true) (hr : SmlR r) (hp' : r.1.p = t.p) : IvR b (t.goes r) := by
  have ha := agrees_at hg
  have hp := h.pok (by omega)
  unfold TS.goes
  split
  · split
    · have hi : Iv b { t with A := r.1 } → IvR b (TS.next { t with A := r.1 }) := fun hi => next_ok hi hp
      rename_i ho _
      -- the judged agreement is over: only what lies beside it is used
      have hc : Core { t with A := r.1 } := h.core.core rfl rfl rfl rfl rfl rfl rfl
      have hf : ({ t with A := r.1 } : TS).chores.length + 256 * ({ t with A := r.1 } : TS).names.length ≤ 256 * b := h.few
      unfold TS.next
      rw [if_neg (show ¬ t.at_ = 1 by omega)]
      split
      · rename_i e2
        have hn := h.at2 e2
        have hl := newC_len hp (t.names.headD noS) r.1
        have hpos : 0 < t.names.length := List.length_pos_iff.2 hn
        have hf' := h.few
        unfold TS.named
        refine name_ok ⟨hc.win, hc.wl, hc.gin, hc.asc, hc.psa, hc.psi, ?_, ?_, hc.aw, hc.al, hc.ast⟩ hp ?_
        · show Asc (if r.1.fixed then t.sus.filter (fun i => decide (i ∈ r.1.acks)) else t.sus)
          split
          · exact asc_filter hc.sua _
          · exact hc.sua
        · show ∀ i ∈ (if r.1.fixed then t.sus.filter (fun i => decide (i ∈ r.1.acks)) else t.sus), i ∈ ids t.p
          split
          · exact fun i hi => hc.sui i (List.mem_filter.1 hi).1
          · exact hc.sui
        · show (t.chores ++ newC t.p (t.names.headD noS) r.1).length + 256 * t.names.tail.length ≤ 256 * b
          rw [List.length_append, List.length_tail]
          omega
      · split
        · unfold TS.mend
          split
          · rename_i hcc
            have h2 : (helpL t.p r.1.holders t.c.tg).isSome = true := ((Bool.and_eq_true _ _).mp ((Bool.and_eq_true _ _).mp hcc).1).2
            have hi := help_is h2
            refine round_ok hc hp hf (.inr (.inr (.inl rfl))) (fun e => by omega) (restL_le hp fun j hj => ?_) (fun i hi' => ?_) (by simp) (help_len hp _ _) rfl
            · rcases List.mem_append.1 hj with hj | hj
              · exact help_ids j hj
              · simp at hj; rw [hj]; exact hi
            · simp at hi'; rw [hi']; exact hi
          · exact over_ok hc hf
        · split
          · unfold TS.purge
            split
            · exact over_ok hc hf
            · exact round_ok hc hp hf (.inr (.inr (.inr rfl))) (fun e => by omega) (ids_len' hp) (fun i hi => hi) (ids_len' hp) (Nat.zero_le _) rfl
          · exfalso
            rename_i g1 g2 g3
            rcases ha with e | e | e
            · exact g1 e
            · exact g2 e
            · exact g3 e
    · exact over_ok (h.core.core rfl rfl rfl rfl rfl rfl rfl) h.few
  · rename_i ho
    exact ⟨⟨h.core.core rfl rfl rfl rfl rfl rfl rfl, h.pok, h.at1, h.at1', h.at2, fun _ => ⟨hp', by simpa using ho, hr.s⟩, h.rng⟩, hr.len, strip_bares hr.bare⟩
theorem take_p (s : Agr.St) (m : Msg) : (s.take m).1.p = s.p := by
  have jp : ∀ s : Agr.St, s.judge.1.p = s.p := fun s => by
    rcases judge_cases s with ⟨hs, _⟩ | ⟨hf, u, v, hs, _, _, _, _, hj⟩
    · exact hs.p
    · rw [hj]; exact hs.p
  unfold Agr.St.take
  split
  · rfl
  · split
    · split
      · exact jp (s.got m)
      · rfl
    · rfl
theorem tick_p (s : Agr.St) : s.tick.1.p = s.p := by
  have jp : ∀ s : Agr.St, s.judge.1.p = s.p := fun s => by
    rcases judge_cases s with ⟨hs, _⟩ | ⟨hf, u, v, hs, _, _, _, _, hj⟩
    · exact hs.p
    · rw [hj]; exact hs.p
  unfold Agr.St.tick
  split
  · rfl
  · split
    · exact jp s
    · unfold Agr.St.late
      split <;> exact jp s
theorem sumN_ins (G : List Msg) (m : Msg) : sumN (insG G m) = sumN G + (names_ m).l.length := by
  have hp := Rnd.ins_perm G m
  unfold sumN
  rw [(hp.map fun m => (names_ m).l.length).sum_nat]
  simp
theorem got_core {t : TS} {m : Msg} (h : Core t) (ht : takesG t.wait t.G m = true) : Core (t.got m) := by
  obtain ⟨n1, n2⟩ := takes_new ht
  refine ⟨h.win, h.wl, fun y hy => ?_, Rnd.ins_asc h.asc n2, h.psa, h.psi, h.sua, h.sui, h.aw, h.al, h.ast⟩
  rcases Rnd.mem_ins.1 hy with hy | hy
  · exact h.gin y hy
  · rw [hy]; exact n1
theorem got_iv' {b : Nat} {t : TS} {m : Msg} (h : Iv b t) (ht : takesG t.wait t.G m = true) : Iv (b + (names_ m).l.length) (t.got m) := by
  refine ⟨got_core h.core ht, h.pok, fun e => ?_, fun e => ?_, h.at2, h.ap, h.rng⟩
  · have := h.at1 e
    show t.chores.length + 256 * t.names.length ≤ 256 * (b + (names_ m).l.length)
    omega
  · obtain ⟨a, b', c'⟩ := h.at1' e
    refine ⟨a, b', ?_⟩
    show t.pn.length + sumN (insG t.G m) ≤ b + (names_ m).l.length
    rw [sumN_ins]; omega
theorem Iv.mono {b c : Nat} {t : TS} (h : Iv b t) (hb : b ≤ c) : Iv c t :=
  ⟨h.core, h.pok, fun e => by have := h.at1 e; omega, fun e => by obtain ⟨a, b', c'⟩ := h.at1' e; exact ⟨a, b', by omega⟩, h.at2, h.ap, h.rng⟩
theorem got_iv {b : Nat} {t : TS} {m : Msg} (h : Iv b t) (ht : takesG t.wait t.G m = true) (hm : (names_ m).l.length ≤ 100) : Iv (b + 100) (t.got m) := (got_iv' h ht).mono (by omega)
theorem take_iv {b : Nat} {t : TS} {m : Msg} (h : Iv b t) (hg : t.agrees = true → t.A.G.length ≤ 256) : IvR (b + (names_ m).l.length) (t.take m) := by
  have h0 : IvR b (t, []) := ⟨h, Nat.zero_le _, rfl⟩
  unfold TS.take
  split
  · exact h0.mono (by omega)
  rename_i e0
  have hp := h.pok e0
  split
  · rename_i ha
    obtain ⟨p1, p2, p3⟩ := h.ap ha
    exact (goes_ok h ha (p3.take (by rw [p1]; exact hp) (hg ha) m) (by rw [take_p, p1])).mono (by omega)
  · split
    · exact (over_ok h.core h.few).mono (by omega)
    · split
      · rename_i hc
        have ht := ((Bool.and_eq_true _ _).mp hc).2
        have hi := got_iv' h ht
        split
        · exact next_ok hi hp
        · exact ⟨hi, Nat.zero_le _, rfl⟩
      · exact h0.mono (by omega)
theorem tick_iv {b : Nat} {t : TS} (h : Iv b t) (hg : t.agrees = true → t.A.G.length ≤ 256) : IvR b t.tick := by
  unfold TS.tick
  split
  · exact ⟨h, Nat.zero_le _, rfl⟩
  rename_i e0
  have hp := h.pok e0
  split
  · rename_i ha
    obtain ⟨p1, p2, p3⟩ := h.ap ha
    exact goes_ok h ha (p3.tick (by rw [p1]; exact hp) (hg ha)) (by rw [tick_p, p1])
  · split
    · exact next_ok h hp
    · unfold TS.late
      split
      · exact over_ok h.core h.few
      · refine ⟨⟨h.core.core rfl rfl rfl rfl rfl rfl rfl, h.pok, h.at1, h.at1', h.at2, h.ap, h.rng⟩, ?_, ?_⟩
        · have := List.length_filter_le (fun x => !decide (Rnd.to_ x ∈ froms t.G)) t.asks
          have h3 := h.core.al
          show (t.asks.filter _).length ≤ 1000
          omega
        · show (t.asks.filter _).map strip = t.asks.filter _
          conv => rhs; rw [← List.map_id (t.asks.filter _)]
          refine List.map_congr_left fun m hm => ?_
          have hm' := (List.mem_filter.1 hm).1
          obtain ⟨i, hi⟩ := List.getElem?_of_mem hm'
          have h1 : (t.asks.map strip)[i]? = t.asks[i]? := by rw [h.core.ast]
          rw [List.getElem?_map, hi] at h1
          simpa using h1
theorem start_iv {p : Plan} {b : Int} {c : Ch} {o : Bool} : IvR 0 (start p b c o) := by
  have hc : Core (start0 p b c) := ⟨(fun i hi => by cases hi), Nat.zero_le _, (fun i hi => by cases hi), List.Pairwise.nil, List.Pairwise.nil, (fun i hi => by cases hi), List.Pairwise.nil, (fun i hi => by cases hi), Nat.zero_le _, Nat.zero_le _, rfl⟩
  have h0 : IvR 0 (start0 p b c, []) := ⟨⟨hc, (fun e => absurd rfl e), fun _ => Nat.le_refl _, (fun e => by cases e), (fun e => by cases e), (fun e => by cases e), ⟨Int.le_refl _, by show (0 : Int) ≤ 7; omega⟩⟩, Nat.zero_le _, rfl⟩
  unfold start
  split
  · exact h0
  · rename_i hn
    have hp : (start0 p b c).p.ok = true := by
      show p.ok = true
      cases h : p.ok with
      | true => rfl
      | false => rw [h] at hn; simp at hn
    split
    · exact round_ok hc hp (Nat.le_refl _) (.inl rfl) (fun _ => ⟨rfl, rfl, Nat.le_refl _⟩) (ids_len' hp) (fun i hi => hi) (ids_len' hp) (Nat.zero_le _) rfl
    · split
      · exact agree_ok hc hp (Nat.le_refl _) (.inr (.inl rfl)) (fun e => by omega)
      · split
        · exact agree_ok hc hp (Nat.le_refl _) (.inr (.inr rfl)) (fun e => by omega)
        · exact h0
end Go.Cho
