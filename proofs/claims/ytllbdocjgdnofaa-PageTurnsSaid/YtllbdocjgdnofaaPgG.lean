/- Pages: the contract of the reference's turn. -/
import Derived.Test.YtllbdocjgdnofaaPgF
namespace Go.Page
open Go.Vx Go.Vc Go.Proofs Go.Txt Go.Lab Go.Hp Go.Pln

/-- The reference's pages lie in the block k, apart from F, where what they name is read. -/
structure RT (H0 F H : PHeap) (k : Nat) (names : List ByteArray) (after : ByteArray) (sus : List Int) : Prop where
  st : Sub H0 F
  off : F k = none
  sub : Sub F H
  row : ∃ oa n c ob m d, Bx H k 47 [.slice oa n c, .string after, .slice ob m d] ∧ RdL F sE 1 oa n names ∧ n ≤ c ∧ RdL F Hp.iE 1 ob m sus
theorem filter_snoc (L : List Msg) (i : Nat) (x : Msg) (h : L[i]? = some x) : (L.take (i + 1)).filter (fun m => kind_ m == 20) = if kind_ x == 20 then (L.take i).filter (fun m => kind_ m == 20) ++ [x] else (L.take i).filter fun m => kind_ m == 20 := by
  rw [List.take_add_one, h, List.filter_append]
  cases hk : kind_ x == 20 <;> simp [hk]
theorem foldl_addL_rising {o l : List ByteArray} (h : Rising o) : l.foldl addL o = mergeL (o ++ l) := by
  refine rising_ext (foldl_rising l h).1 (mergeL_rising _).1 fun x => ?_
  rw [(foldl_rising l h).2, (mergeL_rising _).2, List.mem_append]
theorem refTurn_ok {H : PHeap} {names : List ByteArray} {after : ByteArray} {sus : List Int} {on : Option Addr} {nn cn : Nat} {os : Option Addr} {ns cs : Nat} {oa : Option Addr} {n c : Nat} {L : List Msg}
    (hnm : RdL H sE 1 on nn names) (hnc : nn ≤ cn) (hsu : RdL H Hp.iE 1 os ns sus) (hl : RdL H mE 13 oa n L) (hok : ∀ m ∈ L, OkP H m) (hn : n ≤ 100) (hS : ∀ m ∈ L, ∀ x ∈ (names_ m).l, x.size ≤ 40) (hN : ∀ x ∈ names, x.size ≤ 40) (hris : Rising names)
    (hsum : names.length + sumN (L.filter fun m => kind_ m == 20) ≤ 90000) (hsus : sus.length ≤ 90000) :
    Triple Try.prog 18 #[.agg #[.slice on nn cn, .string after, .slice os ns cs], .slice oa n c] H fun v H' => ∃ b m k b2 m2 k2 w F', v = .tuple #[.agg #[.slice b m k, .string (if (limL (L.filter fun m => kind_ m == 20)).1 then after else (limL (L.filter fun m => kind_ m == 20)).2), .slice b2 m2 k2], .bool w] ∧
      w = (limL (L.filter fun m => kind_ m == 20)).1 ∧ Sub H F' ∧ Sub F' H' ∧ RdL F' sE 1 b m (namesL (limL (L.filter fun m => kind_ m == 20)) names (L.filter fun m => kind_ m == 20)) ∧ m ≤ k ∧ RdL F' Hp.iE 1 b2 m2 (susL sus (L.filter fun m => kind_ m == 20)) := by
  have hll := hl.len
  refine refTurn.vc on nn cn after os ns cs oa n c H _ fun k11 hk11 => ?_
  have hR0 : RT H H (H.upd k11 (.cells #[.slice on nn cn, .string after, .slice os ns cs] 47 (0, 0))) k11 names after sus := ⟨Sub.refl _, hk11, Sub.upd _ hk11, on, nn, cn, os, ns, cs, Bx.new H k11 _ _, hnm, hnc, hsu⟩
  refine ⟨fun t H' => match t with | [.bool b, .string s, .int _ i] => 0 ≤ i ∧ i ≤ n ∧ (b, s) = limL ((L.take i.toNat).filter fun m => kind_ m == 20) ∧ ∃ F, RT H F H' k11 names after (susL sus ((L.take i.toNat).filter fun m => kind_ m == 20)) | _ => False, fun t _ => match t with | [_, _, .int _ i] => (n - i).toNat | _ => 0,
    ⟨by omega, by omega, rfl, H, hR0⟩, ?_⟩
  rintro b s i H17 ⟨i0, i1, hbs, F, hR⟩
  obtain ⟨i, rfl⟩ : ∃ j : Nat, i = j := ⟨i.toNat, by omega⟩
  rw [Int.toNat_natCast] at hbs hR
  have hsF := hR.st
  have hsH := hR.sub
  have hl17 := hl.mono (hsF.trans hsH)
  refine ⟨fun hi => ?_, fun hi => ?_⟩
  · have hi' : i < n := by simpa using hi
    obtain ⟨x, hx, hxr⟩ := hl17.ex (i := (i : Int)) (by omega) (by omega)
    rw [Int.toNat_natCast] at hx
    have hxm := List.mem_of_getElem? hx
    have okx := hok x hxm
    have hSx := hS x hxm
    have hob : ∀ {G : PHeap}, Sub F G → Ob (oa ≠ none ∧ 0 ≤ (i : Int) ∧ (i : Int) < n) := fun _ => hl17.ob (by omega) (by omega)
    have hne := hl17.elem_ne (i := (i : Int)) (by omega) (by omega)
    have hat : ∀ {G : PHeap}, Sub F G → Reads G (elemA oa (i : Int) 13) (mE x) := fun hs => (hl.mono (hsF.trans hs)).at (by omega) (by rw [Int.toNat_natCast]; exact hx)
    have hfs := filter_snoc L i x hx
    have hslen := susL_len sus ((L.take i).filter fun m => kind_ m == 20)
    have hfl := List.length_filter_le (fun m => kind_ m == 20) (L.take i)
    rw [List.length_take] at hfl
    have hf0 := fldM (j := 0) hxr rfl
    have st := who_ok (okx.mono (hsF.trans hsH))
    have hlsn := limL_snoc ((L.take i).filter fun m => kind_ m == 20) x
    have hssn := susL_snoc sus ((L.take i).filter fun m => kind_ m == 20) x
    have hw : wholeB x = (what_ x == 1 || (names_ x).l.isEmpty) := rfl
    have hf9 : ∀ {G : PHeap}, Sub F G → Reads G (fldA (elemA oa (i : Int) 13) 9) [.int .i64 (what_ x)] := fun hs => fldM (j := 9) (hat hs) rfl
    have hf11 : ∀ {G : PHeap}, Sub F G → Reads G (fldA (elemA oa (i : Int) 13) 11) [.slice (names_ x).oa (names_ x).n (names_ x).c] := fun hs => fldM (j := 11) (hat hs) rfl
    have hf1 : ∀ {G : PHeap}, Sub F G → Reads G (fldA (elemA oa (i : Int) 13) 1) [.int .i64 (from_ x)] := fun hs => fldM (j := 1) (hat hs) rfl
    have hzl := okx.names.len
    obtain ⟨y1, y2, y3, y4, y5, y6, y7, y8, y9, y10, ⟨ya, yb, yc, yl⟩, ⟨za, zb, zc, zl⟩, ⟨wa, wb, wc, wl⟩⟩ := x
    simp only [kind_, what_, names_, from_] at hf0 hfs hw hf9 hf11 hf1 hzl hlsn
    rw [wrapS (by omega) (by omega)]
    refine ⟨hob (Sub.refl _), ⟨hne⟩, y1, hf0, fun e => ?_, fun e => ⟨hob (Sub.refl _), y1, y2, y3, y4, y5, y6, y7, y8, y9, y10, ya, yb, yc, za, zb, zc, wa, wb, wc, hxr, st.mono ?_⟩⟩
    · have e' : (y1 == 20) = false := by simpa [bne] using e
      refine ⟨⟨by omega, by omega, ?_, F, ?_⟩, ⟨by simp only; omega⟩⟩
      · rw [show ((i : Int) + 1).toNat = i + 1 by omega, hfs, e']; exact hbs
      · rw [show ((i : Int) + 1).toNat = i + 1 by omega, hfs, e']; exact hR
    have e' : (y1 == 20) = true := by simpa [bne] using e
    rw [e', if_pos rfl] at hfs
    rintro _ H39 ⟨rfl, hH⟩
    obtain rfl := hH.symm
    refine ⟨_, rfl, ?_⟩
    apply both (C := fun H' => ∃ F', Sub F F' ∧ RT H F' H' k11 names after (susL sus ((L.take (i + 1)).filter fun m => kind_ m == 20)))
    · intro key
      refine ⟨fun e2 => ?_, fun e2 => ?_⟩
      · obtain ⟨oan, mn, qn, ob, m, d, hb, h2, h2c, h3⟩ := hR.row
        refine ⟨H17, Sub.refl _, obP k11, ob, m, d, hb.fld rfl, hob (Sub.refl _), ⟨hne⟩, y2, hf1 hsH, fun k46 hk46 => ⟨Sub.upd _ hk46, ?_⟩⟩
        have s46 := Sub.upd (.cells #[] 3 (0, 0)) hk46
        have hm := h3.len
        refine append_rd Rnd.tI (E := Hp.iE) (l := []) Hp.iLen (Owns.empty H17 k46 _ 1) ((h3.mono hsH).mono s46) Hp.iOne (by simp [maxLen]; omega) (by omega) ?_
        intro a49 c49 H48 how hf hfr
        rw [Nat.zero_add] at how ⊢
        rw [List.nil_append] at how
        have s48 : Sub H17 H48 := hf.sub s46 (off_at0 hk46)
        have o49 : Off H17 a49 := hfr.off s46 (off_at0 hk46)
        refine ⟨a49, m, c49, rfl, s48, fun k52 hk52 => ⟨s48.trans (Sub.upd _ hk52), ?_⟩⟩
        refine append_one Rnd.tI (E := Hp.iE) (x := y2) hk52 Hp.iLen how rfl (Hp.iOne _) (by simp [maxLen]; omega) (by omega) ?_
        intro a55 c55 H54 how2 hf2 hfr2 _
        have s54 : Sub H17 H54 := hf2.sub s48 o49
        have o55 : Off H17 a55 := hfr2.off s48 o49
        have hb54 := hb.sub s54
        have hF54 : Sub F (rest H54 [k11]) := rest_le (hsH.trans s54) fun q hq => by rw [List.mem_singleton] at hq; rw [hq]; exact hR.off
        have r55 : RdL (rest H54 [k11]) Hp.iE 1 a55 (m + 1) (susL sus ((L.take i).filter fun m => kind_ m == 20) ++ [y2]) := (how2.rd (E := Hp.iE) (sz := 1) (by omega) Hp.iLen).rest fun a ha => by simpa using o55.ne hb a ha
        refine ⟨a55, m + 1, c55, rfl, (Triple.ro (R := fun v F' => ∃ b k q, v = Value.slice b k q ∧ RdL F' Hp.iE 1 b k (restL (susL sus ((L.take i).filter fun m => kind_ m == 20) ++ [y2]) [])) ((refRest_ok (w := []) r55 (RdL.nil _ _ _) (by omega) (by omega)).mono ?_) (rest_sub _ _)).mono ?_⟩
        · rintro v F' ⟨b, k, q, g1, g2, _, g4⟩
          exact ⟨⟨b, k, q, g1, g2⟩, g4⟩
        rintro _ H59 ⟨F', ⟨b5, kb, qb, rfl, rb⟩, stay⟩
        have hb59 := (stay.hsub (rest_sub _ _)).le _ _ hb54
        have off59 : F' k11 = none := stay.none hb54 (rest_none (by simp))
        refine ⟨b5, kb, qb, rfl, obP k11, _, Bx.put (l := [.slice oan mn qn, .string after, .slice ob m d]) hb59 (i := 2) (x := .slice b5 kb qb) (by simp), ?_⟩
        have hFF' : Sub F F' := hF54.trans stay.fsub
        have hR2 : RT H F' (H59.upd k11 (.cells ([Value.slice oan mn qn, .string after, .slice ob m d].set 2 (.slice b5 kb qb)).toArray 47 (0, 0))) k11 names after (susL sus ((L.take (i + 1)).filter fun m => kind_ m == 20)) := by
          refine ⟨hsF.trans hFF', off59, stay.sub.wr off59, oan, mn, qn, b5, kb, qb, Bx.new _ _ _ _, h2.mono hFF', h2c, ?_⟩
          rw [hfs, hssn]
          unfold susStep
          rw [if_pos e2]
          exact rb
        generalize H59.upd k11 (.cells ([Value.slice oan mn qn, .string after, .slice ob m d].set 2 (.slice b5 kb qb)).toArray 47 (0, 0)) = H63 at hR2 ⊢
        exact key H63 ⟨F', hFF', hR2⟩
      · refine key H17 ⟨F, Sub.refl _, ?_⟩
        rw [hfs, hssn]
        unfold susStep
        rw [if_neg (by rw [e2]; simp)]
        exact hR
    · rintro H63 ⟨F', hFF', hR2⟩
      have hs63 := hFF'.trans hR2.sub
      have wr : ∀ {b' : Bool} {s' : ByteArray} {H' : PHeap}, Sub H63 H' → (b', s') = limL ((L.take (i + 1)).filter fun m => kind_ m == 20) → (0 ≤ (i : Int) + 1 ∧ (i : Int) + 1 ≤ n ∧ (b', s') = limL ((L.take ((i : Int) + 1).toNat).filter fun m => kind_ m == 20) ∧ ∃ F, RT H F H' k11 names after (susL sus ((L.take ((i : Int) + 1).toNat).filter fun m => kind_ m == 20))) ∧ Less ((n - ((i : Int) + 1)).toNat) ((n - (i : Int)).toNat) := by
        intro b' s' H' hs he
        rw [show ((i : Int) + 1).toNat = i + 1 by omega]
        obtain ⟨oan, mn, qn, ob, m, d, g1, g2, g3, g4⟩ := hR2.row
        exact ⟨⟨by omega, by omega, he, F', hR2.st, hR2.off, hR2.sub.trans hs, oan, mn, qn, ob, m, d, g1.sub hs, g2, g3, g4⟩, ⟨by omega⟩⟩
      refine ⟨hob hs63, ⟨hne⟩, y10, hf9 hs63, fun e3 => ⟨hob hs63, ⟨hne⟩, za, zb, zc, hf11 hs63, fun e4 => ⟨hob hs63, ⟨hne⟩, za, zb, zc, hf11 hs63, ?_⟩, fun e4 => ?_⟩, fun e3 => ?_⟩
      · have hz : RdL H sE 1 za zb zl := okx.names
        have hzs : zb ≤ 300 := okx.small
        have hz0 : 0 < zb := by simp at e4; omega
        have e3' : (y10 == 1) = false := by simpa [bne] using e3
        have hnw : wholeB (y1, y2, y3, y4, y5, y6, y7, y8, y9, y10, ⟨ya, yb, yc, yl⟩, ⟨za, zb, zc, zl⟩, ⟨wa, wb, wc, wl⟩) = false := by
          rw [hw, e3']
          cases zl with
          | nil => simp at hzl; omega
          | cons a l => rfl
        have hsz : (maxL zl).size ≤ 1000000 := by
          have h1 : zl ≠ [] := fun e => by rw [e] at hzl; simp at hzl; omega
          have : (maxL zl).size ≤ 40 := hSx _ (maxL_mem h1)
          omega
        rw [hnw, if_neg (by simp), ← hbs] at hlsn
        refine (greatest_ok (hz.mono (hsF.trans hs63)) (by omega) (fun x hx => by have := hSx x hx; omega)).mono ?_
        rintro _ H72 ⟨rfl, hH⟩
        obtain rfl := hH.symm
        refine ⟨_, rfl, fun e5 => (refLessS_ok hsz).use ⟨_, rfl, wr (Sub.refl _) ?_⟩, fun e5 => wr (Sub.refl _) ?_⟩
        · rw [hfs, hlsn, e5]
          unfold limStep
          cases hq : lessS (maxL zl) s <;> simp [hq]
        · have e5' : b = true := by simpa using e5
          rw [hfs, hlsn, e5']
          simp [limStep]
      · have hz0 : zb = 0 := by simp at e4; omega
        have hnil : zl = [] := List.eq_nil_of_length_eq_zero (by omega)
        have hnw : wholeB (y1, y2, y3, y4, y5, y6, y7, y8, y9, y10, ⟨ya, yb, yc, yl⟩, ⟨za, zb, zc, zl⟩, ⟨wa, wb, wc, wl⟩) = true := by rw [hw, hnil]; simp
        rw [hnw, if_pos rfl, ← hbs] at hlsn
        exact wr (Sub.refl _) (by rw [hfs, hlsn])
      · have e3' : (y10 == 1) = true := by simpa [bne] using e3
        have hnw : wholeB (y1, y2, y3, y4, y5, y6, y7, y8, y9, y10, ⟨ya, yb, yc, yl⟩, ⟨za, zb, zc, zl⟩, ⟨wa, wb, wc, wl⟩) = true := by rw [hw, e3']; rfl
        rw [hnw, if_pos rfl, ← hbs] at hlsn
        exact wr (Sub.refl _) (by rw [hfs, hlsn])
  · have hi' : ¬ i < n := by simpa using hi
    rw [List.take_of_length_le (by omega)] at hbs hR
    generalize hlimd : limL (L.filter fun m => kind_ m == 20) = lim at *
    generalize hsud : susL sus (L.filter fun m => kind_ m == 20) = S at *
    subst hbs
    have hrn : ∀ j, Rising (namesL (b, s) names ((L.take j).filter fun m => kind_ m == 20)) := fun j => rising_namesL _ _ hris
    have hnsz : ∀ (L' : List Msg) (nm : List ByteArray), (∀ m ∈ L', ∀ x ∈ (names_ m).l, x.size ≤ 40) → (∀ x ∈ nm, x.size ≤ 40) → ∀ x ∈ namesL (b, s) nm L', x.size ≤ 40 := fun L' nm h1 h2 x hx => by
      rcases (mem_namesL _ L' nm x).1 hx with h | ⟨m, hm, h, _⟩
      · exact h2 x h
      · exact h1 m hm x h
    have hsN : ∀ j, sumN ((L.take j).filter fun m => kind_ m == 20) ≤ sumN (L.filter fun m => kind_ m == 20) := fun j => by
      have e : L.filter (fun m => kind_ m == 20) = (L.take j).filter (fun m => kind_ m == 20) ++ (L.drop j).filter (fun m => kind_ m == 20) := by rw [← List.filter_append, List.take_append_drop]
      rw [e]
      unfold sumN
      rw [List.map_append, List.sum_append]; omega
    refine ⟨fun t H' => match t with | [.int _ j] => 0 ≤ j ∧ j ≤ n ∧ ∃ F, RT H F H' k11 (namesL (b, s) names ((L.take j.toNat).filter fun m => kind_ m == 20)) after S | _ => False, fun t _ => match t with | [.int _ j] => (n - j).toNat | _ => 0, ⟨by omega, by omega, F, hR⟩, ?_⟩
    rintro j H57 ⟨j0, j1, F2, hR2⟩
    obtain ⟨j, rfl⟩ : ∃ z : Nat, j = z := ⟨j.toNat, by omega⟩
    rw [Int.toNat_natCast] at hR2
    refine ⟨fun hj => ?_, fun hj => ?_⟩
    · have hj' : j < n := by simpa using hj
      obtain ⟨x, hx⟩ : ∃ x, L[j]? = some x := ⟨_, List.getElem?_eq_getElem (by omega)⟩
      have hxm := List.mem_of_getElem? hx
      have okx := hok x hxm
      have hSx := hS x hxm
      have hfs := filter_snoc L j x hx
      have hnsn := namesL_snoc (b, s) names ((L.take j).filter fun m => kind_ m == 20) x
      have hzl := okx.names.len
      have hzs := okx.small
      have hat : ∀ {G : PHeap}, Sub H G → Reads G (elemA oa (j : Int) 13) (mE x) := fun hs => (hl.mono hs).at (by omega) (by rw [Int.toNat_natCast]; exact hx)
      have hf0 : ∀ {G : PHeap}, Sub H G → Reads G (fldA (elemA oa (j : Int) 13) 0) [.int .i64 (kind_ x)] := fun hs => fldM (j := 0) (hat hs) rfl
      have hf11 : ∀ {G : PHeap}, Sub H G → Reads G (fldA (elemA oa (j : Int) 13) 11) [.slice (names_ x).oa (names_ x).n (names_ x).c] := fun hs => fldM (j := 11) (hat hs) rfl
      have hob : Ob (oa ≠ none ∧ 0 ≤ (j : Int) ∧ (j : Int) < n) := hl.ob (by omega) (by omega)
      have hne := hl.elem_ne (i := (j : Int)) (by omega) (by omega)
      generalize hN0 : namesL (b, s) names ((L.take j).filter fun m => kind_ m == 20) = N0 at *
      have hrN0 : Rising N0 := by rw [← hN0]; exact hrn j
      have hszN0 : ∀ x ∈ N0, x.size ≤ 40 := by
        rw [← hN0]
        exact hnsz _ _ (fun m hm => hS m (List.mem_of_mem_take (List.mem_filter.1 hm).1)) hN
      have hlN0 : N0.length ≤ 90000 := by
        have h1 := namesL_len (b, s) names ((L.take j).filter fun m => kind_ m == 20)
        rw [hN0] at h1
        have h2 := hsN j
        omega
      refine ⟨fun t H' => match t with | [.int _ z] => 0 ≤ z ∧ z ≤ (names_ x).n ∧ (z = 0 ∨ (kind_ x == 20) = true) ∧ ∃ F, RT H F H' k11 ((((names_ x).l.take z.toNat).filter fun y => !farB (b, s) y).foldl addL N0) after S | _ => False, fun t _ => match t with | [.int _ z] => ((names_ x).n - z).toNat | _ => 0, ⟨by omega, by omega, .inl rfl, F2, hR2⟩, ?_⟩
      rintro z H61 ⟨z0, z1, zk, F3, hR3⟩
      obtain ⟨z, rfl⟩ : ∃ q : Nat, z = q := ⟨z.toNat, by omega⟩
      rw [Int.toNat_natCast] at hR3
      have hsH3 := hR3.st.trans hR3.sub
      refine ⟨hob, ⟨hne⟩, kind_ x, hf0 hsH3, fun e1 => ⟨hob, ⟨hne⟩, (names_ x).oa, (names_ x).n, (names_ x).c, hf11 hsH3, fun e2 => ?_, fun e2 => ?_⟩, fun e1 => ?_⟩
      · have hz' : z < (names_ x).n := by simpa using e2
        have hzr := okx.names.mono hsH3
        obtain ⟨y, hy, hyr⟩ := hzr.ex (i := (z : Int)) (by omega) (by omega)
        rw [Int.toNat_natCast] at hy
        have hy40 := hSx y (List.mem_of_getElem? hy)
        have htk : (names_ x).l.take (z + 1) = (names_ x).l.take z ++ [y] := by rw [List.take_add_one, hy]; rfl
        have htf := List.length_filter_le (fun y => !farB (b, s) y) ((names_ x).l.take z)
        rw [List.length_take] at htf
        obtain ⟨oan, mn, qn, ob, m, d, hb, h2, h2c, h3⟩ := hR3.row
        have hlN := foldl_len (((names_ x).l.take z).filter fun y => !farB (b, s) y) N0
        have hml := h2.len
        have hszN : ∀ u ∈ ((((names_ x).l.take z).filter fun y => !farB (b, s) y).foldl addL N0), u.size ≤ 1000000 := fun u hu => by
          rcases ((foldl_rising _ hrN0).2 u).1 hu with h | h
          · have := hszN0 u h; omega
          · have := hSx u (List.mem_of_mem_take (List.mem_filter.1 h).1); omega
        rw [wrapS (by omega) (by omega)]
        -- one more name
        have add : farB (b, s) y = false → Triple Try.prog 9 #[.slice oan mn qn, .string y] H61 fun v H' => ∃ a k q, v = Value.slice a k q ∧ Ob (at0 k11 ≠ none) ∧ ∃ H'', Writes H' H'' (fldA (at0 k11) 0) [.slice a k q] ∧
            ((0 ≤ (z : Int) + 1 ∧ (z : Int) + 1 ≤ (names_ x).n ∧ ((z : Int) + 1 = 0 ∨ (kind_ x == 20) = true) ∧ ∃ F, RT H F H'' k11 ((((names_ x).l.take ((z : Int) + 1).toNat).filter fun y => !farB (b, s) y).foldl addL N0) after S) ∧ Less (((names_ x).n - ((z : Int) + 1)).toNat) (((names_ x).n - (z : Int)).toNat)) := by
          intro hf
          refine (Triple.ro (R := fun v F' => ∃ b' m k, v = Value.slice b' m k ∧ RdL F' sE 1 b' m (addL ((((names_ x).l.take z).filter fun y => !farB (b, s) y).foldl addL N0) y) ∧ m ≤ k) ((add_ok h2 h2c (by omega) hszN).mono ?_) hR3.sub).mono ?_
          · rintro v F' ⟨b', m, k, g1, g2, g3, g4⟩
            exact ⟨⟨b', m, k, g1, g2, g3⟩, g4⟩
          rintro _ H' ⟨F4, ⟨b', m', k', rfl, g2, g3⟩, stay⟩
          have hb' := (stay.hsub hR3.sub).le _ _ hb
          have off' : F4 k11 = none := stay.none hb hR3.off
          refine ⟨b', m', k', rfl, obP k11, _, Bx.put (l := [.slice oan mn qn, .string after, .slice ob m d]) hb' (i := 0) (x := .slice b' m' k') (by simp), ⟨by omega, by omega, .inr e1, F4, hR3.st.trans stay.fsub, off', stay.sub.wr off', b', m', k', ob, m, d, Bx.new _ _ _ _, ?_, g3, h3.mono stay.fsub⟩, ⟨by omega⟩⟩
          rw [show ((z : Int) + 1).toNat = z + 1 by omega, htk, List.filter_append, List.foldl_append]
          simpa [hf] using g2
        refine ⟨fun e3 => ⟨hob, ⟨hne⟩, (names_ x).oa, (names_ x).n, (names_ x).c, hf11 hsH3, hzr.ob (by omega) (by omega), y, hyr, ?_⟩, fun e3 => ?_⟩
        · have hsz : s.size ≤ 1000000 := by
            -- the limit is one of the names, or none
            have := (lim_fold (L.filter fun m => kind_ m == 20) (true, noS)).2
            rw [show (L.filter fun m => kind_ m == 20).foldl (fun st m => if wholeB m then st else limStep st (maxL (names_ m).l)) (true, noS) = (b, s) from hlimd] at this
            rcases (this e3).1 with ⟨_, h⟩ | ⟨m, hm, hwm, h⟩
            · rw [show s = noS from h]; simp [noS, ByteArray.size]
            · have h1 : (names_ m).l ≠ [] := fun e => by simp [wholeB, e] at hwm
              have := hS m (List.mem_filter.1 hm).1 _ (maxL_mem h1)
              rw [show s = maxL (names_ m).l from h]; omega
          refine (refLessS_ok hsz).use ⟨_, rfl, fun e4 => ⟨H61, Sub.refl _, obP k11, oan, mn, qn, hb.fld rfl, hob, ⟨hne⟩, (names_ x).oa, (names_ x).n, (names_ x).c, hf11 hsH3, hzr.ob (by omega) (by omega), y, hyr, add ?_⟩, fun e4 => ?_⟩
          · have : lessS s y = false := by simpa using e4
            simp [farB, e3, this]
          · have hfar : farB (b, s) y = true := by
              have : lessS s y = true := by simpa using e4
              simp [farB, e3, this]
            refine ⟨⟨by omega, by omega, .inr e1, F3, ?_⟩, ⟨by simp only; omega⟩⟩
            rw [show ((z : Int) + 1).toNat = z + 1 by omega, htk, List.filter_append]
            simpa [hfar] using hR3
        · have e3' : b = true := by simpa using e3
          exact ⟨H61, Sub.refl _, obP k11, oan, mn, qn, hb.fld rfl, hob, ⟨hne⟩, (names_ x).oa, (names_ x).n, (names_ x).c, hf11 hsH3, hzr.ob (by omega) (by omega), y, hyr, add (by simp [farB, e3'])⟩
      · have hz' : ¬ z < (names_ x).n := by simpa using e2
        rw [List.take_of_length_le (by omega), foldl_addL_rising hrN0] at hR3
        rw [wrapS (by omega) (by omega)]
        refine ⟨⟨by omega, by omega, F3, ?_⟩, ⟨by simp only; omega⟩⟩
        rw [show ((j : Int) + 1).toNat = j + 1 by omega, hfs, if_pos e1, hnsn]
        exact hR3
      · have e1' : (kind_ x == 20) = false := by simpa using e1
        have hz0 : z = 0 := by
          rcases zk with h | h
          · omega
          · rw [e1'] at h; cases h
        subst hz0
        rw [wrapS (by omega) (by omega)]
        refine ⟨⟨by omega, by omega, F3, ?_⟩, ⟨by simp only; omega⟩⟩
        rw [show ((j : Int) + 1).toNat = j + 1 by omega, hfs, e1']
        simpa [hN0] using hR3
    · have hj' : ¬ j < n := by simpa using hj
      rw [List.take_of_length_le (by omega)] at hR2
      obtain ⟨oan, mn, qn, ob, m, d, hb, h2, h2c, h3⟩ := hR2.row
      refine ⟨fun e => ?_, fun e => ?_⟩
      · have e' : b = false := by simpa using e
        have hb' := Bx.new H57 k11 47 ([.slice oan mn qn, .string after, .slice ob m d].set 1 (.string s))
        refine ⟨obP k11, _, hb.put (i := 1) (x := .string s) (by simp), oan, mn, qn, s, ob, m, d, hb'.reads, oan, mn, qn, ob, m, d, b, F2, ?_, rfl, hR2.st, hR2.sub.wr hR2.off, h2, h2c, h3⟩
        rw [e']; rfl
      · have e' : b = true := by simpa using e
        refine ⟨oan, mn, qn, after, ob, m, d, hb.reads, oan, mn, qn, ob, m, d, b, F2, ?_, rfl, hR2.st, hR2.sub, h2, h2c, h3⟩
        rw [e']; rfl
end Go.Page
