/- What the law PageAll tells: true. -/
import Derived.Test.YtllbdocjgdnofaaPgC
import Derived.Test.YtllbdocjgdnofaaVcPageL
namespace Go.Page
open Go.Vx Go.Vc Go.Proofs Go.Txt Go.Lab

theorem nil_less {x : ByteArray} (h : 1 ≤ x.size) : lessS noS x = true := by
  rcases lessS_total (a := noS) (b := x) (fun e => by rw [← e] at h; simp [noS, ByteArray.size] at h) with h1 | h1
  · exact h1
  · unfold lessS at h1
    rw [show noS.toList = [] by rw [toListB], bytesLess_nil] at h1
    cases h1
theorem alive_ok (H : PHeap) : Triple Try.prog 5 #[] H fun v H' => v = .bool true ∧ Sub H H' := by
  refine alivePg.vc H _ fun k1 hk1 k2 hk2 k3 hk3 k4 hk4 => ?_
  have s1 := Sub.upd (.cells #[Value.slice none 0 0, .string noS, .slice none 0 0] 31 (0, 0)) hk1
  have b1 : Bx (H.upd k1 (.cells #[Value.slice none 0 0, .string noS, .slice none 0 0] 31 (0, 0))) k1 31 [.slice none 0 0, .string noS, .slice none 0 0] := Bx.new H k1 _ _
  have h1 : H k1 = none := hk1
  generalize H.upd k1 (.cells #[Value.slice none 0 0, .string noS, .slice none 0 0] 31 (0, 0)) = H1 at *
  have s2 := Sub.upd (.cells (([⟨#[97]⟩, ⟨#[99]⟩] : List ByteArray).flatMap sE).toArray 9 (0, 0)) hk2
  have b2 : Bx (H1.upd k2 (.cells (([⟨#[97]⟩, ⟨#[99]⟩] : List ByteArray).flatMap sE).toArray 9 (0, 0))) k2 9 (([⟨#[97]⟩, ⟨#[99]⟩] : List ByteArray).flatMap sE) := Bx.new H1 k2 _ _
  have n2 : k2 ≠ k1 := fun e => by unfold Bx at b1; rw [← e, hk2] at b1; cases b1
  have b12 := b1.sub s2
  change (H1.upd k2 (.cells (([⟨#[97]⟩, ⟨#[99]⟩] : List ByteArray).flatMap sE).toArray 9 (0, 0))) k3 = none at hk3
  generalize hG2 : H1.upd k2 (.cells (([⟨#[97]⟩, ⟨#[99]⟩] : List ByteArray).flatMap sE).toArray 9 (0, 0)) = H2 at *
  have s3 := Sub.upd (.cells (([⟨#[98]⟩, ⟨#[100]⟩] : List ByteArray).flatMap sE).toArray 9 (0, 0)) hk3
  have b3 : Bx (H2.upd k3 (.cells (([⟨#[98]⟩, ⟨#[100]⟩] : List ByteArray).flatMap sE).toArray 9 (0, 0))) k3 9 (([⟨#[98]⟩, ⟨#[100]⟩] : List ByteArray).flatMap sE) := Bx.new H2 k3 _ _
  have n3 : k3 ≠ k1 := fun e => by unfold Bx at b12; rw [← e, hk3] at b12; cases b12
  have b13 := b12.sub s3
  have b23 := b2.sub s3
  have hk4' : (H2.upd k3 (.cells (([⟨#[98]⟩, ⟨#[100]⟩] : List ByteArray).flatMap sE).toArray 9 (0, 0))) k4 = none := by rw [← hG2]; exact hk4
  generalize hG3 : H2.upd k3 (.cells (([⟨#[98]⟩, ⟨#[100]⟩] : List ByteArray).flatMap sE).toArray 9 (0, 0)) = H3 at *
  let m1 : Msg := (20, 0, 0, 0, noS, 0, 0, 0, 0, 0, ⟨none, 0, 0, []⟩, ⟨at0 k2, 2, 2, [⟨#[97]⟩, ⟨#[99]⟩]⟩, ⟨none, 0, 0, []⟩)
  let m2 : Msg := (20, 0, 0, 0, noS, 0, 0, 0, 0, 1, ⟨none, 0, 0, []⟩, ⟨at0 k3, 2, 2, [⟨#[98]⟩, ⟨#[100]⟩]⟩, ⟨none, 0, 0, []⟩)
  have s4 := Sub.upd (.cells (([m1, m2] : List Msg).flatMap mE).toArray 38 (0, 0)) hk4'
  have b4 : Bx (H3.upd k4 (.cells (([m1, m2] : List Msg).flatMap mE).toArray 38 (0, 0))) k4 38 (([m1, m2] : List Msg).flatMap mE) := Bx.new H3 k4 _ _
  have n4 : k4 ≠ k1 := fun e => by unfold Bx at b13; rw [← e, hk4'] at b13; cases b13
  have b14 := b13.sub s4
  have b24 := b23.sub s4
  have b34 := b3.sub s4
  have hG : (((H1.upd k2 (.cells #[.string ⟨#[97]⟩, .string ⟨#[99]⟩] 9)).upd k3 (.cells #[.string ⟨#[98]⟩, .string ⟨#[100]⟩] 9)).upd k4 (.cells (([m1, m2] : List Msg).flatMap mE).toArray 38 (0, 0))) = H3.upd k4 (.cells (([m1, m2] : List Msg).flatMap mE).toArray 38 (0, 0)) := by rw [← hG3, ← hG2]; rfl
  refine (show Triple _ _ _ ((((H1.upd k2 (.cells #[.string ⟨#[97]⟩, .string ⟨#[99]⟩] 9)).upd k3 (.cells #[.string ⟨#[98]⟩, .string ⟨#[100]⟩] 9)).upd k4 (.cells (([m1, m2] : List Msg).flatMap mE).toArray 38 (0, 0)))) _ from ?_)
  rw [hG]
  have s04 : Sub H (H3.upd k4 (.cells (([m1, m2] : List Msg).flatMap mE).toArray 38 (0, 0))) := s1.trans (s2.trans (s3.trans s4))
  generalize H3.upd k4 (.cells (([m1, m2] : List Msg).flatMap mE).toArray 38 (0, 0)) = H4 at *
  clear hG hG2 hG3
  have hF : Sub H (rest H4 [k1]) := rest_le s04 fun q hq => by simp at hq; subst hq; exact h1
  have r4 : RdL (rest H4 [k1]) mE 13 (at0 k4) 2 [m1, m2] := (Bx.rd (E := mE) (sz := 13) (l := [m1, m2]) (fun _ => rfl) b4).rest fun a ha => by cases ha; simpa using n4
  have r2 : RdL (rest H4 [k1]) sE 1 (at0 k2) 2 [⟨#[97]⟩, ⟨#[99]⟩] := (Bx.rd (E := sE) (sz := 1) (l := [⟨#[97]⟩, ⟨#[99]⟩]) (fun _ => rfl) b24).rest fun a ha => by cases ha; simpa using n2
  have r3 : RdL (rest H4 [k1]) sE 1 (at0 k3) 2 [⟨#[98]⟩, ⟨#[100]⟩] := (Bx.rd (E := sE) (sz := 1) (l := [⟨#[98]⟩, ⟨#[100]⟩]) (fun _ => rfl) b34).rest fun a ha => by cases ha; simpa using n3
  have hp : PgS (rest H4 [k1]) H4 k1 [] noS := ⟨rest_sub _ _, rest_none (by simp), none, 0, 0, b14, RdL.nil _ _ _⟩
  have hok : ∀ m ∈ [m1, m2], OkP (rest H4 [k1]) m := fun m hm => by
    simp at hm
    rcases hm with rfl | rfl
    · exact ⟨RdL.nil _ _ _, r2, by show 2 ≤ 300; omega⟩
    · exact ⟨RdL.nil _ _ _, r3, by show 2 ≤ 300; omega⟩
  have hsus : ∀ m ∈ [m1, m2], stateL m ≠ 2 := fun m hm => by
    simp at hm
    rcases hm with rfl | rfl <;> simp [stateL, who_, m1, m2]
  refine (turn_ok (c := 2) hp r4 hok hsus (by omega) (by simp [sumN, m1, m2, kind_, names_])).mono ?_
  rintro _ H6 ⟨rfl, F6, sF, hp6⟩
  have e1 : (limL ([m1, m2].filter fun m => kind_ m == 20)).1 = false := by kernel_rfl
  have e2 : (limL ([m1, m2].filter fun m => kind_ m == 20)).2 = ⟨#[99]⟩ := by kernel_rfl
  have e3 : namesL (limL ([m1, m2].filter fun m => kind_ m == 20)) [] ([m1, m2].filter fun m => kind_ m == 20) = [⟨#[97]⟩, ⟨#[98]⟩, ⟨#[99]⟩] := by kernel_rfl
  rw [e1, e2, e3, if_neg (by simp)] at hp6
  refine ⟨_, rfl, fun _ => (after_okP hp6).mono ?_, fun e => by rw [e1] at e; simp at e⟩
  rintro _ _ ⟨rfl, rfl⟩
  refine ⟨_, rfl, fun _ => (names_okP hp6 (by simp)).mono ?_, fun e => by rw [eqS_iff.2 rfl] at e; simp at e⟩
  rintro _ H9 ⟨b, q, c, rfl, g1, g2⟩
  have hq : q = 3 := by have := g1.len; simpa using this.symm
  subst hq
  refine ⟨b, 3, c, rfl, fun k16 hk16 => ?_⟩
  have s16 := Sub.upd (.cells (([⟨#[97]⟩, ⟨#[98]⟩, ⟨#[99]⟩] : List ByteArray).flatMap sE).toArray 9 (0, 0)) hk16
  have b16 := Bx.new H9 k16 9 (([⟨#[97]⟩, ⟨#[98]⟩, ⟨#[99]⟩] : List ByteArray).flatMap sE)
  refine (same_ok (g1.mono s16) (Bx.rd (E := sE) (sz := 1) (l := [⟨#[97]⟩, ⟨#[98]⟩, ⟨#[99]⟩]) (fun _ => rfl) b16) (by omega)).mono ?_
  rintro _ H18 ⟨rfl, rfl⟩
  exact ⟨true, rfl, rfl, hF.trans (sF.trans (hp6.sub.trans (g2.trans s16)))⟩

/-! ### The law -/
/-- A node's names. -/
structure Nd (F : PHeap) (o : TT) : Prop where
  rd : RdL F sE 1 o.oa o.n o.l
  le : o.n ≤ o.c
  rise : Rising o.l
  len : o.n ≤ 60
theorem Nd.mono {F G : PHeap} {o : TT} (h : Nd F o) (hs : Sub F G) : Nd G o := ⟨h.rd.mono hs, h.le, h.rise, h.len⟩
/-- Behind the first nodes. -/
structure L1 (H H' : PHeap) (i : Nat) (a : Option Addr) (m k : Nat) (b : Option Addr) (r q : Nat) (F : PHeap) (A : List ByteArray) (os : List TT) : Prop where
  st : Sub H F
  sub : Sub F H'
  off : Off F b
  rdA : RdL F sE 1 a m A
  mle : m ≤ k
  rise : Rising A
  name : ∀ x ∈ A, NameP x
  lenA : A.length ≤ 60 * i
  own : OwnL H' 24 Sl.E 1 b r q os
  len : os.length = i
  nd : ∀ o ∈ os, Nd F o
  mem : ∀ x, x ∈ A ↔ ∃ o ∈ os, x ∈ o.l
theorem tT : ElemT Try.prog 22 24 1 24 := .of (by kernel_rfl)
theorem slLen (x : TT) : (Sl.E x).length = 1 := rfl
theorem slOne (x : TT) : ∀ u ∈ Sl.E x, u.oneCell' = true := fun u hu => by simp [Sl.E] at hu; subst hu; rfl
theorem node_ok {F H : PHeap} {oa : Option Addr} {n c : Nat} {l : List ByteArray} (hs : Sub F H) (hl : RdL F sE 1 oa n l) (hn : n ≤ 60) (hS : ∀ x ∈ l, x.size ≤ 40) {k : Nat} (hk : H k = none) :
    Triple Try.prog 7 #[.slice (at0 k) 1 1] (H.upd k (.cells #[.slice oa n c] 24)) fun v H' => ∃ b m q, v = .slice b m q ∧ ∃ F', Stay F H F' H' ∧ Nd F' ⟨b, m, q, mergeL l⟩ := by
  have st := Stay.allocR (k := k) (o := .cells #[.slice oa n c] 24 (0, 0)) hs hk
  have hT : RdT (F.upd k (.cells #[.slice oa n c] 24 (0, 0))) (at0 k) 1 [⟨oa, n, c, l⟩] := by
    refine ⟨Bx.rd (E := Sl.E) (sz := 1) (l := ([⟨oa, n, c, l⟩] : List TT)) (fun _ => rfl) (Bx.new F k 24 _), fun p hp => ?_⟩
    simp at hp
    subst hp
    exact hl.mono (Sub.upd _ (hs.none hk))
  have hall : allT [⟨oa, n, c, l⟩] = l := by simp [allT]
  have hll := hl.len
  refine (Triple.ro (R := fun v F' => ∃ b m q, v = Value.slice b m q ∧ RdL F' sE 1 b m (mergeL l) ∧ m ≤ q) ((refMerge_ok (c := 1) hT (by omega) (fun p hp => by simp at hp; subst hp; show n ≤ 100000; omega) (by rw [hall]; omega) (fun x hx => by rw [hall] at hx; have := hS x hx; omega)).mono ?_) st.sub).mono ?_
  · rintro v F' ⟨b, m, q, h1, h2, h3, h4⟩
    rw [hall] at h2
    exact ⟨⟨b, m, q, h1, h2, h3⟩, h4⟩
  · rintro v H' ⟨F', ⟨b, m, q, h1, h2, h3⟩, h4⟩
    have hm := h2.len
    have := mergeL_len l
    exact ⟨b, m, q, h1, F', st.trans h4, h2, h3, (mergeL_rising l).1, by show m ≤ 60; omega⟩
/-- Behind the first pages of a turn. -/
structure L2 (F0 F H' : PHeap) (k : Nat) (i : Nat) (names : List ByteArray) (after : ByteArray) (nn : Nat) (os : List TT) (a : Option Addr) (m c : Nat) (L : List Msg) : Prop where
  st : Sub F0 F
  pg : PgS F H' k names after
  off : Off F a
  ne : ∀ x, a = some x → x.block ≠ k
  own : OwnL H' 38 mE 13 a m c L
  len : L.length = i
  ok : ∀ x ∈ L, OkP F x ∧ stateL x ≠ 2 ∧ (names_ x).l.length ≤ 8 ∧ ∃ o ∈ os.map (·.l), PageOf o after nn x
  page : ∀ o ∈ os.take i, ∃ x ∈ L, PageOf o.l after nn x
theorem page_ok {F0 F H : PHeap} {k i nn : Nat} {names : List ByteArray} {after : ByteArray} {os : List TT} {a : Option Addr} {m c : Nat} {L : List Msg} (h : L2 F0 F H k i names after nn os a m c L) (hm : m ≤ 8) (hnn : nn ≤ 8) {o : TT} (ho : os[i]? = some o) {k85 k86 : Nat} (hk : H k85 = none) {H85 : PHeap} (hH : H85 = H.upd k85 (.cells #[.int .i64 1] 3)) (hk2 : H85 k86 = none)
    {b : Option Addr} {r q : Nat} (hr : RdL F sE 1 b r ((o.l.filter fun x => lessS after x).take nn)) {w : Int} (hw : w = if (o.l.filter fun x => lessS after x).length ≤ nn then 1 else 0) {fr : Int} {K : Value → PHeap → Prop}
    (hK : ∀ a' c' H' F' L', L2 F0 F' H' k (i + 1) names after nn os a' (m + 1) c' L' → K (.slice a' (m + 1) c') H') :
    EvV Try.prog (Builtin.append_ #[32, 32] 32 #[.slice a m c, .slice (at0 k86) 1 1])
      (H85.upd k86 (.cells #[.int .i64 20, .int .i64 fr, .int .i64 0, .int .i64 0, .string ⟨#[]⟩, .int .i64 0, .int .i64 0, .int .i64 0, .int .i64 0, .int .i64 w, .slice (at0 k85) 1 1, .slice b r q, .slice none 0 0] 38)) K := by
  subst hH
  obtain ⟨oan, nn', cn, hb, hnm⟩ := h.pg.row
  have st := Stay.allocR (k := k85) (o := .cells #[.int .i64 1] 3 (0, 0)) h.pg.sub hk
  have hsub := st.hsub h.pg.sub
  have hown : OwnL (H.upd k85 (.cells #[.int .i64 1] 3)) 38 mE 13 a m c L := Owns.mono h.own fun x y _ hy => hsub.le _ _ hy
  have hoff := st.off h.off h.own
  have hFk := st.none hb h.pg.off
  let M : Msg := (20, fr, 0, 0, noS, 0, 0, 0, 0, w, ⟨at0 k85, 1, 1, [1]⟩, ⟨b, r, q, (o.l.filter fun x => lessS after x).take nn⟩, ⟨none, 0, 0, []⟩)
  have hrl := hr.len
  have hrn : r ≤ 8 := by rw [← hrl, List.length_take]; omega
  refine append_one Rnd.tM (E := mE) (l := L) (x := M) hk2 Rnd.mLen hown rfl (Rnd.mOne M) (by simp [maxLen]; omega) (by omega) ?_
  intro a' c' H' how hf hfr _
  have hFs : Sub (F.upd k85 (.cells #[.int .i64 1] 3 (0, 0))) H' := hf.sub st.sub hoff
  have hbH : Bx H' k 31 [.slice oan nn' cn, .string after, .slice none 0 0] := hf.bx (hb.sub hsub) h.ne
  have w1 : RdL (F.upd k85 (.cells #[.int .i64 1] 3 (0, 0))) iE 1 (at0 k85) 1 [1] := Bx.rd (E := iE) (sz := 1) (l := [1]) (fun _ => rfl) (Bx.new F k85 3 _)
  have pM : PageOf o.l after nn M := ⟨rfl, rfl, hw⟩
  have hom : o.l ∈ os.map (·.l) := List.mem_map.2 ⟨o, List.mem_of_getElem? ho, rfl⟩
  refine hK a' c' H' (F.upd k85 (.cells #[.int .i64 1] 3 (0, 0))) (L ++ [M]) ⟨h.st.trans st.fsub, ⟨hFs, hFk, oan, nn', cn, hbH, hnm.mono st.fsub⟩, hfr.off st.sub hoff, hfr.ne (hb.sub hsub) h.ne, how, by simp [h.len], fun x hx => ?_, fun p hp => ?_⟩
  · rcases List.mem_append.1 hx with hx | hx
    · obtain ⟨g1, g2, g3, g4⟩ := h.ok x hx
      exact ⟨g1.mono st.fsub, g2, g3, g4⟩
    · simp at hx
      subst hx
      exact ⟨⟨w1, hr.mono st.fsub, by show r ≤ 300; omega⟩, by simp [stateL, who_, M], by show ((o.l.filter fun x => lessS after x).take nn).length ≤ 8; omega, o.l, hom, pM⟩
  · rw [List.take_add_one, ho] at hp
    rcases List.mem_append.1 hp with hp | hp
    · obtain ⟨x, g1, g2⟩ := h.page p hp
      exact ⟨x, List.mem_append_left _ g1, g2⟩
    · simp at hp
      subst hp
      exact ⟨M, by simp, pM⟩
theorem all_ok {H : PHeap} {oa : Option Addr} {n c : Nat} {ps : List TT} {most : Int} (h : RdT H oa n ps) (hm0 : 0 ≤ most) (hm : most ≤ 255) :
    Triple Try.prog 3 #[.slice oa n c, .int .u8 most] H fun v H' => v = .bool true ∧ Sub H H' := by
  have alive : ∀ {H1 : PHeap}, Sub H H1 → Triple Try.prog 5 #[] H1 fun v H' => ∃ b, v = Value.bool b ∧ Value.bool b = Value.bool true ∧ Sub H H' := fun hs => (alive_ok _).mono fun v H' ⟨h1, h2⟩ => ⟨true, h1, rfl, hs.trans h2⟩
  have htop := h.top
  have hnl := htop.len
  refine lawPAll.vc oa n c most H _ ⟨fun _ => alive (Sub.refl _), fun hn => ?_⟩
  have hn8 : n ≤ 8 := by simp at hn; omega
  refine ⟨fun t H' => match t with | [.slice a m k, .slice b r q, .int _ i] => 0 ≤ i ∧ i ≤ n ∧ ∃ F A os, L1 H H' i.toNat a m k b r q F A os | _ => False, fun t _ => match t with | [_, _, .int _ i] => (n - i).toNat | _ => 0,
    ⟨by omega, by omega, H, [], [], Sub.refl _, Sub.refl _, Off.none _, RdL.nil _ _ _, Nat.le_refl _, List.Pairwise.nil, by simp, by simp, Owns.nil _ _ 1, rfl, by simp, by simp⟩, ?_⟩
  rintro a m k b r q i H17 ⟨i0, i1, F, A, os, hI⟩
  obtain ⟨i, rfl⟩ : ∃ j : Nat, i = j := ⟨i.toNat, by omega⟩
  rw [Int.toNat_natCast] at hI
  have hHs := hI.st.trans hI.sub
  refine ⟨fun hi => ?_, fun hi => ?_⟩
  · have hi' : i < n := by simpa using hi
    obtain ⟨p, hp⟩ : ∃ p, ps[i]? = some p := ⟨_, List.getElem?_eq_getElem (by omega)⟩
    have hpr := h.each p (List.mem_of_getElem? hp)
    have htr : Reads H17 (elemA oa (i : Int) 1) [.slice p.oa p.n p.c] := (h.mono hHs).top.at (by omega) (by simpa using hp)
    refine ⟨(htop.mono hHs).ob (by omega) (by omega), p.oa, p.n, p.c, htr, fun _ => (far_ok (hpr.mono hHs)).mono ?_, fun _ => alive hHs⟩
    rintro _ H22 ⟨bf, rfl, hH, hfar⟩
    obtain rfl := hH.symm
    refine ⟨bf, rfl, fun _ => alive hHs, fun e k27 hk27 => ?_⟩
    obtain ⟨hp60, hpS⟩ := hfar e
    refine (node_ok (c := p.c) hI.sub (hpr.mono hI.st) hp60 hpS hk27).mono ?_
    rintro _ H29 ⟨b30, m31, q32, rfl, F2, st2, hnd⟩
    have hM := hnd.rd
    have hMl : (mergeL p.l).length = m31 := hM.len
    have hM60 : m31 ≤ 60 := hnd.len
    have hlA := hI.lenA
    refine ⟨b30, m31, q32, rfl, fun t H' => match t with | [.slice a m k, .int _ j] => 0 ≤ j ∧ j ≤ m31 ∧ ∃ F3 A', Stay F2 H29 F3 H' ∧ RdL F3 sE 1 a m A' ∧ m ≤ k ∧ Rising A' ∧ (∀ x, x ∈ A' ↔ x ∈ A ∨ x ∈ (mergeL p.l).take j.toNat) ∧ (∀ x ∈ A', NameP x) ∧ A'.length ≤ A.length + j.toNat | _ => False,
      fun t _ => match t with | [_, .int _ j] => (m31 - j).toNat | _ => 0, ⟨by omega, by omega, F2, A, Stay.refl st2.sub, hI.rdA.mono st2.fsub, hI.mle, hI.rise, by simp, hI.name, by simp⟩, ?_⟩
    rintro a35 k36 k37 j H39 ⟨j0, j1, F3, A', st3, hA', hmk, hris, hmem, hname, hlen⟩
    obtain ⟨j, rfl⟩ : ∃ z : Nat, j = z := ⟨j.toNat, by omega⟩
    rw [Int.toNat_natCast] at hmem hlen
    have st23 := st2.trans st3
    have hH39 : Sub H17 H39 := st23.hsub hI.sub
    refine ⟨fun hj => ?_, fun hj k52 hk52 => ?_⟩
    · have hj' : j < m31 := by simpa using hj
      have hM3 := (hM.mono st3.fsub).mono st3.sub
      obtain ⟨x, hx, hxr⟩ := hM3.ex (i := (j : Int)) (by omega) (by show (j : Int) < m31; omega)
      rw [Int.toNat_natCast] at hx
      refine ⟨hM3.ob (by omega) (by show (j : Int) < m31; omega), x, hxr, (refRight_ok x).mono ?_⟩
      rintro _ H42 ⟨bn, rfl, rfl, hbn⟩
      refine ⟨bn, rfl, fun _ => alive (hHs.trans hH39), fun e => ?_⟩
      have hnx : NameP x := hbn.1 (by simpa using e)
      have hA'l := hA'.len
      refine (Triple.ro (R := fun v F' => ∃ b m k, v = Value.slice b m k ∧ RdL F' sE 1 b m (addL A' x) ∧ m ≤ k) ((add_ok hA' hmk (by omega) fun y hy => by have := (hname y hy).2.1; omega).mono ?_) st3.sub).mono ?_
      · rintro v F' ⟨b, m, k, g1, g2, g3, g4⟩
        exact ⟨⟨b, m, k, g1, g2, g3⟩, g4⟩
      rintro _ H48 ⟨F4, ⟨b, m, k, rfl, g2, g3⟩, st4⟩
      obtain ⟨r1, r2⟩ := add_rising x hris
      have hal := addL_len A' x
      rw [wrapS (by omega) (by omega)]
      refine ⟨b, m, k, rfl, ⟨by omega, by omega, F4, addL A' x, st3.trans st4, g2, g3, r1, fun y => ?_, fun y hy => ?_, by omega⟩, ⟨by simp only; omega⟩⟩
      · rw [r2, hmem, show ((j : Int) + 1).toNat = j + 1 by omega, List.take_add_one, hx, List.mem_append]
        simp [or_assoc]
      · rcases (r2 y).1 hy with hy | rfl
        · exact hname y hy
        · exact hnx
    · have hj' : ¬ j < m31 := by simpa using hj
      rw [List.take_of_length_le (by omega)] at hmem
      have hown : OwnL H39 24 Sl.E 1 b r q os := Owns.mono hI.own fun x y _ hy => hH39.le _ _ hy
      have hoff := st23.off hI.off hI.own
      have hr8 : r ≤ 8 := by
        have := hI.len
        have hl := (hI.own.rd (E := Sl.E) (sz := 1) (by omega) slLen).len
        omega
      refine append_one tT (E := Sl.E) (l := os) (x := ⟨b30, m31, q32, mergeL p.l⟩) hk52 slLen hown rfl (slOne _) (by simp [maxLen]; omega) (by omega) ?_
      intro oa' c' H54 how hf hfr _
      have hA'l := hA'.len
      rw [wrapS (by omega) (by omega)]
      refine ⟨oa', r + 1, c', rfl, ⟨by omega, by omega, F3, A', os ++ [⟨b30, m31, q32, mergeL p.l⟩], hI.st.trans st23.fsub, hf.sub st23.sub hoff, hfr.off st23.sub hoff, hA', hmk, hris, hname, by omega, how, by simp [hI.len], fun o ho => ?_, fun x => ?_⟩, ⟨by simp only; omega⟩⟩
      · rcases List.mem_append.1 ho with ho | ho
        · exact (hI.nd o ho).mono st23.fsub
        · simp at ho; subst ho; exact hnd.mono st3.fsub
      · rw [hmem, hI.mem]
        simp only [List.mem_append, List.mem_singleton]
        constructor
        · rintro (⟨o, g1, g2⟩ | hx)
          · exact ⟨o, .inl g1, g2⟩
          · exact ⟨_, .inr rfl, hx⟩
        · rintro ⟨o, g1 | rfl, g2⟩
          · exact .inl ⟨o, g1, g2⟩
          · exact .inr g2
  · have hi' : ¬ i < n := by simpa using hi
    obtain rfl : i = n := by omega
    have hos := hI.own.rd (E := Sl.E) (sz := 1) (by omega) slLen
    have hosl := hos.len
    have hol := hI.len
    have hlA := hI.lenA
    have hAl := hI.rdA.len
    have hrA := hI.rdA.mono hI.sub
    have hnd : ∀ o ∈ os, Nd H17 o := fun o ho => (hI.nd o ho).mono hI.sub
    have hmem : ∀ x, x ∈ A ↔ ∃ o ∈ os.map (·.l), x ∈ o := fun x => by
      rw [hI.mem]
      exact ⟨fun ⟨o, h1, h2⟩ => ⟨o.l, List.mem_map.2 ⟨o, h1, rfl⟩, h2⟩, fun ⟨o, h1, h2⟩ => let ⟨p, h3, h4⟩ := List.mem_map.1 h1; ⟨p, h3, h4 ▸ h2⟩⟩
    have hrise : ∀ o ∈ os.map (·.l), Rising o := fun o ho => by
      obtain ⟨p, hp, rfl⟩ := List.mem_map.1 ho
      exact (hnd p hp).rise
    have hrisA := hI.rise
    have hname := hI.name
    have et : IntKind.i64.wrap (1 + IntKind.i64.wrap (most.tmod 8)) = (((most.toNat % 8) + 1 : Nat) : Int) := by
      have e1 : most.tmod 8 = ((most.toNat % 8 : Nat) : Int) := by
        rw [Int.tmod_eq_emod_of_nonneg hm0]; omega
      have e2 : IntKind.i64.wrap ((most.toNat % 8 : Nat) : Int) = ((most.toNat % 8 : Nat) : Int) := wrap64 (by omega) (by omega)
      rw [e1, e2, wrap64 (by omega) (by omega)]; omega
    generalize hnn : most.toNat % 8 + 1 = nn at et
    have hnn8 : nn ≤ 8 ∧ 1 ≤ nn := by omega
    refine ⟨⟨by omega⟩, fun k61 hk61 => ?_⟩
    have hk61' : H17 k61 = none := hk61
    have ew : IntKind.i64.wrap ((m : Int) + 1) = m + 1 := wrapS (by omega) (by omega)
    rw [ew]
    refine ⟨fun t H' => match t with | [.int _ i] => 0 ≤ i ∧ i ≤ m + 1 ∧ ∃ F names after, Sub H17 F ∧ PgS F H' k61 names after ∧ Told A names after ∧ i.toNat ≤ names.length | _ => False, fun t _ => match t with | [.int _ i] => (m + 1 - i).toNat | _ => 0,
      ⟨by omega, by omega, H17, [], noS, Sub.refl _, PgS.new H17 hk61, ⟨List.Pairwise.nil, fun x => ⟨fun hx => (by cases hx), fun ⟨h1, h2⟩ => by rw [nil_less (hname x h1).1] at h2; cases h2⟩⟩, by simp⟩, ?_⟩
    rintro z H65 ⟨z0, z1, F, names, after, sF, hpg, hT, hz⟩
    obtain ⟨z, rfl⟩ : ∃ w : Nat, z = w := ⟨z.toNat, by omega⟩
    rw [Int.toNat_natCast] at hz
    have hnA : names.length ≤ A.length := by rw [hT.eq hrisA]; exact List.length_filter_le ..
    refine ⟨fun hz' => ?_, fun hz' => by simp at hz'; omega⟩
    refine ⟨fun t H' => match t with | [.slice a mm cc, .int _ j] => 0 ≤ j ∧ j ≤ r ∧ mm = j.toNat ∧ ∃ F2 L, L2 F F2 H' k61 j.toNat names after nn os a mm cc L | _ => False, fun t _ => match t with | [_, .int _ j] => (r - j).toNat | _ => 0,
      ⟨by omega, by omega, by simp, F, [], Sub.refl _, hpg, Off.none _, fun x hx => (by cases hx), Owns.nil _ _ 13, rfl, by simp, by simp⟩, ?_⟩
    rintro a68 k69 k70 j H72 ⟨j0, j1, jm, F2, L, hL⟩
    obtain ⟨j, rfl⟩ : ∃ w : Nat, j = w := ⟨j.toNat, by omega⟩
    rw [Int.toNat_natCast] at hL jm
    subst jm
    have sF2 : Sub H17 F2 := sF.trans hL.st
    have hH72 : Sub H H72 := hHs.trans (sF2.trans hL.pg.sub)
    refine ⟨fun hj => ?_, fun hj => ?_⟩
    · have hj' : k69 < r := by simpa using hj
      have hos72 := hos.mono (sF2.trans hL.pg.sub)
      obtain ⟨o, ho, hor⟩ := hos72.ex (i := (k69 : Int)) (by omega) (by omega)
      rw [Int.toNat_natCast] at ho
      have hno := (hnd o (List.mem_of_getElem? ho)).mono sF2
      have hno60 := hno.len
      refine ⟨hos72.ob (by omega) (by omega), o.oa, o.n, o.c, hor, (after_okP hL.pg).mono ?_⟩
      rintro _ H77 ⟨rfl, rfl⟩
      refine ⟨after, rfl, ?_⟩
      rw [et]
      generalize hfl : o.l.filter (fun x => lessS after x) = fl
      have e1 : told ((nn : Nat) : Int) fl.length = min nn fl.length := rfl
      refine (Triple.ro (R := fun v F' => ∃ b k, v = .tuple #[.slice b (min nn fl.length) k, .bool (decide (min nn fl.length = fl.length))] ∧ RdL F' sE 1 b (min nn fl.length) (fl.take nn)) ((after_ok (s := after) (most := (nn : Int)) hno.rd hno.le (by omega) hno.rise).mono ?_) hL.pg.sub).mono ?_
      · rintro v F' ⟨b, k, g1, g2, g3⟩
        rw [hfl, e1] at g1 g2
        refine ⟨⟨b, k, g1, ?_⟩, g3⟩
        have : fl.take (min nn fl.length) = fl.take nn := by
          rcases Nat.le_total nn fl.length with h | h
          · rw [Nat.min_eq_left h]
          · rw [Nat.min_eq_right h, List.take_of_length_le (Nat.le_refl _), List.take_of_length_le h]
        rwa [this] at g2
      rintro _ H80 ⟨F3, ⟨b, k, rfl, hrd⟩, st⟩
      obtain ⟨oan, nn', cn, hb, hnm⟩ := hL.pg.row
      have hsub := st.hsub hL.pg.sub
      have hL3 : L2 F F3 H80 k61 k69 names after nn os a68 k69 k70 L := ⟨hL.st.trans st.fsub, ⟨st.sub, st.none hb hL.pg.off, oan, nn', cn, hb.sub hsub, hnm.mono st.fsub⟩, st.off hL.off hL.own, hL.ne, Owns.mono hL.own fun x y _ hy => hsub.le _ _ hy, hL.len, fun x hx => let ⟨g1, g2⟩ := hL.ok x hx; ⟨g1.mono st.fsub, g2⟩, hL.page⟩
      have dec : decide (min nn fl.length = fl.length) = decide (fl.length ≤ nn) := by
        by_cases h : fl.length ≤ nn
        · have : min nn fl.length = fl.length := by omega
          simp [this, h]
        · have : min nn fl.length ≠ fl.length := by omega
          simp [this, h]
      have hrd' : RdL F3 sE 1 b (min nn fl.length) ((o.l.filter fun x => lessS after x).take nn) := by rw [hfl]; exact hrd
      refine ⟨b, min nn fl.length, k, _, rfl, fun k85 hk85 => ⟨fun hbt k86 hk86 => ?_, fun hbf k86 hk86 => ?_⟩⟩
      · rw [dec] at hbt
        refine page_ok (w := 1) hL3 (by omega) hnn8.1 ho hk85 rfl hk86 hrd' (by rw [hfl, if_pos (by simpa using hbt)]) ?_
        intro a' c' H' F' L' g
        rw [wrapS (by omega) (by omega)]
        exact ⟨a', k69 + 1, c', rfl, ⟨by omega, by omega, by omega, F', L', by rw [show ((k69 : Int) + 1).toNat = k69 + 1 by omega]; exact g⟩, ⟨by simp only; omega⟩⟩
      · rw [dec] at hbf
        refine page_ok (w := 0) hL3 (by omega) hnn8.1 ho hk85 rfl hk86 hrd' (by rw [hfl, if_neg (by simpa using hbf)]) ?_
        intro a' c' H' F' L' g
        rw [wrapS (by omega) (by omega)]
        exact ⟨a', k69 + 1, c', rfl, ⟨by omega, by omega, by omega, F', L', by rw [show ((k69 : Int) + 1).toNat = k69 + 1 by omega]; exact g⟩, ⟨by simp only; omega⟩⟩
    · have hj' : ¬ k69 < r := by simpa using hj
      obtain rfl : k69 = r := by omega
      have hpage : ∀ o ∈ os.map (·.l), ∃ x ∈ L, PageOf o after nn x := fun o ho => by
        obtain ⟨p, hp, rfl⟩ := List.mem_map.1 ho
        exact hL.page p (by rw [List.take_of_length_le (by omega)]; exact hp)
      have hkind : L.filter (fun m => kind_ m == 20) = L := List.filter_eq_self.2 fun x hx => by
        obtain ⟨_, _, _, o, _, hp⟩ := hL.ok x hx
        simp [hp.kind]
      have hsum : sumN L ≤ 8 * L.length := by
        have : ∀ l : List Msg, (∀ x ∈ l, (names_ x).l.length ≤ 8) → sumN l ≤ 8 * l.length := by
          intro l
          induction l with
          | nil => intro _; simp [sumN]
          | cons x xs ih =>
            intro hh
            have h1 := ih fun y hy => hh y (List.mem_cons_of_mem _ hy)
            have h2 := hh x (by simp)
            have e : sumN (x :: xs) = (names_ x).l.length + sumN xs := by simp [sumN]
            rw [e, List.length_cons]; omega
        exact this L fun x hx => (hL.ok x hx).2.2.1
      have hLl := hL.len
      obtain ⟨oan, nn', cn, hb, hnm⟩ := hL.pg.row
      have sF5 : Sub F2 (rest H72 [k61]) := rest_le hL.pg.sub fun q hq => by simp at hq; subst hq; exact hL.pg.off
      have hp5 : PgS (rest H72 [k61]) H72 k61 names after := ⟨rest_sub _ _, rest_none (by simp), oan, nn', cn, hb, hnm.mono sF5⟩
      have hr5 : RdL (rest H72 [k61]) mE 13 a68 k69 L := (hL.own.rd (E := mE) (sz := 13) (by omega) Rnd.mLen).rest fun x hx => by simpa using hL.ne x hx
      refine (turn_ok (c := k70) hp5 hr5 (fun x hx => (hL.ok x hx).1.mono sF5) (fun x hx => (hL.ok x hx).2.1) (by omega) (by rw [hkind]; omega)).mono ?_
      rw [hkind]
      rintro _ H99 ⟨rfl, F6, sF6, hp6⟩
      have hpure := turn_pure (n := nn) hrisA hmem hrise hnn8.2 hT (fun x hx => (hL.ok x hx).2.2.2) hpage
      refine ⟨_, rfl, fun hbt => ?_, fun hbf => ?_⟩
      · have e := hpure.1 hbt
        rw [e] at hp6
        refine (names_okP hp6 (by omega)).mono ?_
        rintro _ H102 ⟨b, w, cw, rfl, g1, g2⟩
        have hw : w = m := by rw [← g1.len, hAl]
        subst hw
        refine ⟨b, _, cw, rfl, (same_ok g1 (hrA.mono (sF2.trans (sF5.trans (sF6.trans (hp6.sub.trans g2))))) (by omega)).mono ?_⟩
        rintro _ H107 ⟨rfl, rfl⟩
        exact ⟨true, rfl, fun _ => alive (hHs.trans (sF2.trans (sF5.trans (sF6.trans (hp6.sub.trans g2))))), fun e => by simp at e⟩
      · obtain ⟨t1, t2⟩ := hpure.2 hbf
        rw [hbf, if_neg (by simp)] at hp6
        have hz'' : z < m + 1 := by simp at hz'; omega
        rw [wrapS (by omega) (by omega)]
        exact ⟨⟨by omega, by omega, F6, _, _, sF2.trans (sF5.trans sF6), hp6, t1, by omega⟩, ⟨by simp only; omega⟩⟩
end Go.Page
